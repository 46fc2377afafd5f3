/- Texts of this seat laid together: F, F38, F39, F27, F25, F28, F26, NumMath, Reg, NumC, NumP, F22, F14, F10, F11, F68, F71, F62, F66, F65, ShaM, Own, Upd, F57, ShaP, F70, F63, F67, ShaT, ShaS. -/
import Derived.Test.YtimcafohmahapaaProg
import Derived.Below
import Derived.Deep.Draws
import Derived.Deep.AppendLies
import Derived.Maps.AppendAt
import Derived.OwnWalk
import Derived.Laws.BytesArg
import Derived.Laws.MakeOwn
import Derived.Laws.OwnMore
import Derived.Deep.OwnRows
import Derived.Tactics
import Derived.Lib.ConvBytes
import Derived.Laws.Slices
import Derived.WalkKit
import Derived.KernelRfl
import Derived.RowKit3
import Derived.Deep.LoopGhost
import Derived.Deep.QuietTactic
import Derived.BigQuiet
import Derived.WideLaws
import Derived.Deep.DeepCutAuto
import Derived.Deep.CutBlock
import Derived.Deep.RegionHeld3
import Derived.Laws.Rows
import Derived.Lib.AppendStr
import Derived.ArgAppend
import Derived.Laws.IdiomCopy
import Derived.OrdersHeld
import Derived.Laws.BitsLemmas
import Derived.RowKit
import Derived.Test.YtimcafohmahapaaVWords
import Derived.Test.YtimcafohmahapaaVLast
import Derived.Test.YtimcafohmahapaaVTab
import Derived.Test.YtimcafohmahapaaVFour
import Derived.Test.YtimcafohmahapaaVQPut
import Derived.Test.YtimcafohmahapaaVApart
import Derived.Test.YtimcafohmahapaaVArr
import Derived.Test.YtimcafohmahapaaVZeros
import Derived.Test.YtimcafohmahapaaVFoot
import Derived.Test.YtimcafohmahapaaVKept
import Derived.Test.YtimcafohmahapaaVShare
import Derived.Test.YtimcafohmahapaaVN
import Derived.Test.YtimcafohmahapaaVFootNe
import Derived.Test.YtimcafohmahapaaVAt
import Derived.Test.YtimcafohmahapaaVEqStruct
import Derived.Test.YtimcafohmahapaaVRepsOne
import Derived.Test.YtimcafohmahapaaVInv
import Derived.Test.YtimcafohmahapaaVInvWords
import Derived.Test.YtimcafohmahapaaVGuard
import Derived.Test.YtimcafohmahapaaVNEv
import Derived.Test.YtimcafohmahapaaVMore
import Derived.Orders
import Derived.Lib.Hide
import Derived.Laws.MathBits
import Derived.Lib.Mul64
import Derived.Laws.Externs

-- F
namespace Go.Proofs.Ytimcafohmahapaa.F
open Go.RowKit Go.Proofs.YtimcafohmahapaaW.PrintWords Go.Proofs.YtimcafohmahapaaW.PrintLast Go.Proofs.YtimcafohmahapaaW.PrintMore
attribute [local go_sem] max2_int min2_int max_two min_two max_three min_three max_four min_four   -- for this text's walks alone
set_option linter.unusedVariables false
set_option linter.unusedSimpArgs false



def errW : Option Int → Value
  | none => .nilIface
  | some c => .iface 0 (.int .i64 c)
theorem errW_none : errW none = .nilIface := rfl
theorem errW_some (c : Int) : errW (some c) = .iface 0 (.int .i64 c) := rfl

theorem info5 : (Try.prog.info? 5).map (fun i => (i.zero, i.size, i.bytes)) = some (some (.int .u8 0), 1, 1) := by kernel_rfl
theorem info9 : (Try.prog.info? 9).map (fun i => (i.zero, i.size, i.bytes)) = some (some (.string ⟨#[]⟩), 1, 16) := by kernel_rfl
-- the values' own types
/-! #### struct type 43 -/
structure S43 where
  f0 : Bool
  f1 : Int
  f2 : ByteArray
def z43 : S43 := ⟨false, (0 : Int), (⟨#[]⟩ : ByteArray)⟩
def k43 : Kd S43 := Kd.iso (Kd.pair Kd.bool (Kd.pair (Kd.int .i64) Kd.string)) (fun x : S43 => (x.f0, x.f1, x.f2))
theorem k43_open {w : World} {x : S43} {cs : List Value} (h : k43.K w x cs) : cs = [.bool x.f0, .int .i64 x.f1, .string x.f2] := by
  obtain ⟨_, _, rfl, rfl, ⟨_, _, rfl, rfl, rfl⟩⟩ := h
  exact rfl
theorem k43_mk (w : World) (x : S43)  : k43.K w x [.bool x.f0, .int .i64 x.f1, .string x.f2] := ⟨[.bool x.f0], [.int .i64 x.f1, .string x.f2], rfl, rfl, ⟨[.int .i64 x.f1], [.string x.f2], rfl, rfl, rfl⟩⟩
def rd_T43 (xs : List S43) (i : Int) : S43 := xs.getD i.toNat z43
theorem at_T43 {w : World} {A : Option Addr} {n : Nat} {xs : List S43} (h : Kd.C k43 w A n xs) (i : Int) (h0 : 0 ≤ i) (h1 : i < n) : ∃ ad , A = some ad ∧ w.cell? (ad.add (i.toNat * 3)) = some (.bool (rd_T43 xs i).f0) ∧ w.cell? ⟨(ad.add (i.toNat * 3)).block, (ad.add (i.toNat * 3)).off + 1, none⟩ = some (.int .i64 (rd_T43 xs i).f1) ∧ w.cell? ⟨(ad.add (i.toNat * 3)).block, (ad.add (i.toNat * 3)).off + 2, none⟩ = some (.string (rd_T43 xs i).f2) := by
  obtain ⟨ad, c, e, _, hK, hc0⟩ := Kd.C_get h z43 i h0 h1
  have hc : ∀ j u, c[j]? = some u → w.cell? (ad.add (i.toNat * 3 + j)) = some u := hc0
  obtain rfl := k43_open hK
  exact ⟨ad, e, hc 0 _ rfl, by rw [← add_field _ _ 1 (by omega)]; exact hc 1 _ rfl, by rw [← add_field _ _ 2 (by omega)]; exact hc 2 _ rfl⟩

end Go.Proofs.Ytimcafohmahapaa.F

namespace Go.Proofs.Ytimcafohmahapaa.F
open Go.RowKit Go.Proofs.YtimcafohmahapaaW.PrintWords Go.Proofs.YtimcafohmahapaaW.PrintLast Go.Proofs.YtimcafohmahapaaW.PrintMore
attribute [local go_sem] max2_int min2_int max_two min_two max_three min_three max_four min_four   -- for this text's walks alone
set_option linter.unusedVariables false
set_option linter.unusedSimpArgs false

end Go.Proofs.Ytimcafohmahapaa.F

-- F38
namespace Go.Proofs.Ytimcafohmahapaa.F
open Go.RowKit Go.Proofs.YtimcafohmahapaaW.PrintWords Go.Proofs.YtimcafohmahapaaW.PrintLast Go.Proofs.YtimcafohmahapaaW.PrintMore
attribute [local go_sem] max2_int min2_int max_two min_two max_three min_three max_four min_four   -- for this text's walks alone
set_option linter.unusedVariables false
set_option linter.unusedSimpArgs false

end Go.Proofs.Ytimcafohmahapaa.F

-- F39
namespace Go.Proofs.Ytimcafohmahapaa.F
open Go.RowKit Go.Proofs.YtimcafohmahapaaW.PrintWords Go.Proofs.YtimcafohmahapaaW.PrintLast Go.Proofs.YtimcafohmahapaaW.PrintMore
attribute [local go_sem] max2_int min2_int max_two min_two max_three min_three max_four min_four   -- for this text's walks alone
set_option linter.unusedVariables false
set_option linter.unusedSimpArgs false

end Go.Proofs.Ytimcafohmahapaa.F

-- F27
namespace Go.Proofs.Ytimcafohmahapaa.F
open Go.RowKit Go.Proofs.YtimcafohmahapaaW.PrintWords Go.Proofs.YtimcafohmahapaaW.PrintLast Go.Proofs.YtimcafohmahapaaW.PrintMore
attribute [local go_sem] max2_int min2_int max_two min_two max_three min_three max_four min_four   -- for this text's walks alone
set_option linter.unusedVariables false
set_option linter.unusedSimpArgs false

-- NOT PRINTED: function 13 (delta_Encode)

end Go.Proofs.Ytimcafohmahapaa.F

-- F25
namespace Go.Proofs.Ytimcafohmahapaa.F
open Go.RowKit Go.Proofs.YtimcafohmahapaaW.PrintWords Go.Proofs.YtimcafohmahapaaW.PrintLast Go.Proofs.YtimcafohmahapaaW.PrintMore
attribute [local go_sem] max2_int min2_int max_two min_two max_three min_three max_four min_four   -- for this text's walks alone
set_option linter.unusedVariables false
set_option linter.unusedSimpArgs false

end Go.Proofs.Ytimcafohmahapaa.F

-- F28
namespace Go.Proofs.Ytimcafohmahapaa.F
open Go.RowKit Go.Proofs.YtimcafohmahapaaW.PrintWords Go.Proofs.YtimcafohmahapaaW.PrintLast Go.Proofs.YtimcafohmahapaaW.PrintMore
attribute [local go_sem] max2_int min2_int max_two min_two max_three min_three max_four min_four   -- for this text's walks alone
set_option linter.unusedVariables false
set_option linter.unusedSimpArgs false

end Go.Proofs.Ytimcafohmahapaa.F

-- F26
namespace Go.Proofs.Ytimcafohmahapaa.F
open Go.RowKit Go.Proofs.YtimcafohmahapaaW.PrintWords Go.Proofs.YtimcafohmahapaaW.PrintLast Go.Proofs.YtimcafohmahapaaW.PrintMore
attribute [local go_sem] max2_int min2_int max_two min_two max_three min_three max_four min_four   -- for this text's walks alone
set_option linter.unusedVariables false
set_option linter.unusedSimpArgs false

end Go.Proofs.Ytimcafohmahapaa.F

-- NumMath
namespace Go.Proofs.YtimcafohmahapaaM
open Go Go.RowKit
set_option linter.unusedVariables false
end Go.Proofs.YtimcafohmahapaaM

-- Reg
namespace Go.Proofs.YtimcafohmahapaaR
open Go Go.RowKit

/-- what an operation reads: a temporary, and the last operation ahead of it (in the text) that writes it -/
abbrev Reads := List (Tmp × Option Nat)
/-- its guard: the temporary, and what it must be -/
abbrev GuardT := Option (Tmp × Bool)

def lastW (ops : Array Oper) (p : Nat → Bool) (t : Tmp) : Option Nat :=
  (List.range ops.size).reverse.find? fun j => p j && ((ops[j]?).bind (·.dst) == some t)

def bitsOf (A : List Nat) : List Edge → Nat
  | [] => 0
  | e :: es => (if Region.binds .any e then 2 ^ e.on ||| A.getD e.on 0 else 0) ||| bitsOf A es

def mkAnc (ops : List Oper) : List Nat := ops.foldl (fun A o => A ++ [bitsOf A o.after.toList]) []

def edgesOk (ops : Array Oper) (A : List Nat) : Bool :=
  (List.range ops.size).all fun j => match ops[j]? with
    | none => true
    | some o => A.getD j 0 == bitsOf A o.after.toList && o.after.toList.all fun e => !Region.binds .any e || decide (e.on < j)

def names (ops : Array Oper) (o : Oper) : List Tmp := o.dst.toList ++ o.looksAt ops

def pairsOk (ops : Array Oper) (A : List Nat) : Bool :=
  (List.range ops.size).all fun j => match ops[j]? with
    | none => true
    | some oj => (List.range j).all fun i => match ops[i]? with
      | none => true
      | some oi => (A.getD j 0).testBit i || ((oi.dst.all fun t => !(names ops oj).contains t) && (oj.dst.all fun t => !(oi.looksAt ops).contains t))

def readsOk (ops : Array Oper) (reads : List (Reads × GuardT)) (n : Nat) : Bool :=
  (List.range reads.length).all fun i => match ops[i]?, reads[i]? with
    | some o, some (r, g) =>
      (r.all fun (t, j) => (o.looksAt ops).contains t && lastW ops (fun j => decide (j < i)) t == j) &&
      (o.dst.all fun d => decide (d < n)) &&
      (match o.guard, g with
        | none, none => true
        | some (k, want), some (t, want') => want == want' && (ops[k]?).bind (·.dst) == some t
        | _, _ => false)
    | _, _ => true

def finalOk (ops : Array Oper) (m : Nat) (fin : List (Tmp × Nat)) : Bool :=
  (fin.all fun (t, j) => lastW ops (fun j => decide (j < m)) t == some j) &&
  (ops.toList.take m).all fun o => o.dst.all fun t => (fin.map (·.1)).contains t

/-- from operation m on, each waits for all that stand ahead of it -/
def tailOk (ops : Array Oper) (A : List Nat) (m : Nat) : Bool :=
  decide (m ≤ ops.size) && (List.range ops.size).all fun j => decide (j < m) || (List.range j).all fun i => (A.getD j 0).testBit i

def regionOk (ops : Array Oper) (reads : List (Reads × GuardT)) (fin : List (Tmp × Nat)) (n : Nat) : Bool :=
  let A := mkAnc ops.toList
  edgesOk ops A && pairsOk ops A && readsOk ops reads n && finalOk ops reads.length fin && tailOk ops A reads.length

section
variable (P : Program) (Q : Exit → Act → World → Prop) (R : World → World → Prop) (V : Nat → World → Value → Prop) (a0 : Act) (w0 : World) (E : Act → World → Prop)

def Dep (a : Act) (w : World) : Tmp × Option Nat → Prop
  | (t, some j) => V j w (a.tmps[t]?.getD undef)
  | (t, none) => a.tmps[t]?.getD undef = a0.tmps[t]?.getD undef

def Deps (a : Act) (w : World) : Reads → Prop
  | [] => True
  | r :: rs => Dep V a0 a w r ∧ Deps a w rs

/-- an operation's goal: whatever comes behind it -/
def OpGoal (o : Oper) (g : GuardT) (i : Nat) (a : Act) (w : World) : Prop :=
  match g with
  | none => ∀ K : Act → World → Prop, (∀ v w', R w w' → V i w' v → K (a.put o.dst v) w') → o.wp P a w K Q
  | some (t, want) => (a.tmps[t]?.getD undef = .bool want → ∀ K : Act → World → Prop, (∀ v w', R w w' → V i w' v → K (a.put o.dst v) w') → o.wp P a w K Q) ∧
      (a.tmps[t]?.getD undef ≠ .bool want → V i w undef)

def OpsHold : Nat → List Oper → List (Reads × GuardT) → Prop
  | i, o :: os, (r, g) :: rs => (∀ a w, R w0 w → Deps V a0 a w r → OpGoal P Q R V o g i a w) ∧ OpsHold (i + 1) os rs
  | _, _, _ => True

/-- behind the region: what each temporary holds at last -/
def EndHold : (World → Prop) → List (Tmp × Nat) → Act → Prop
  | F, [], a => ∀ w, R w0 w → F w → E a w
  | F, (t, j) :: fin, a => ∀ v, EndHold (fun w => F w ∧ V j w v) fin (a.put (some t) v)
end

theorem testBit_bitsOf (A : List Nat) (i : Nat) : ∀ es : List Edge, (bitsOf A es).testBit i = true →
    ∃ e ∈ es, Region.binds .any e = true ∧ (e.on = i ∨ (A.getD e.on 0).testBit i = true)
  | [], h => by simp [bitsOf] at h
  | e :: es, h => by
    simp only [bitsOf, Nat.testBit_or, Bool.or_eq_true] at h
    rcases h with h | h
    · split at h
      · rename_i hb
        simp only [Nat.testBit_or, Bool.or_eq_true, Nat.testBit_two_pow, decide_eq_true_eq] at h
        exact ⟨e, by simp, hb, h⟩
      · simp at h
    · obtain ⟨e', he, hb, h'⟩ := testBit_bitsOf A i es h
      exact ⟨e', by simp [he], hb, h'⟩

/-- what is listed is closed downward -/
def Closed (ops : Array Oper) (listed : Array Bool) : Prop :=
  ∀ j o, ops[j]? = some o → listed.getD j false = true → ∀ e ∈ o.after, Region.binds .any e = true → listed.getD e.on false = true

theorem closed_anc {ops : Array Oper} {A : List Nat} {listed : Array Bool} (hA : edgesOk ops A = true) (hc : Closed ops listed) :
    ∀ (j : Nat) (o : Oper), ops[j]? = some o → (∀ e ∈ o.after, Region.binds .any e = true → listed.getD e.on false = true) → ∀ i, (A.getD j 0).testBit i = true → listed.getD i false = true := by
  intro j
  induction j using Nat.strongRecOn with
  | _ j ih =>
    intro o ho hd i hi
    have hj : j < ops.size := (Array.getElem?_eq_some_iff.1 ho).1
    have h1 := List.all_eq_true.1 hA j (List.mem_range.2 hj)
    simp only [ho, Bool.and_eq_true, beq_iff_eq, List.all_eq_true, Bool.or_eq_true, Bool.not_eq_true', decide_eq_true_eq] at h1
    obtain ⟨e1, e2⟩ := h1
    rw [e1] at hi
    obtain ⟨e, he, hb, h⟩ := testBit_bitsOf A i _ hi
    have hlt := (e2 e he).resolve_left (by simp [hb])
    have hl := hd e (by simpa using he) hb
    rcases h with rfl | h
    · exact hl
    · have hek : e.on < ops.size := by omega
      exact ih e.on hlt _ (Array.getElem?_eq_getElem hek) (hc e.on _ (Array.getElem?_eq_getElem hek) hl) i h

theorem getD_set_self {listed : Array Bool} {i : Nat} (h : i < listed.size) (d : Bool) : (listed.setIfInBounds i true).getD i d = true := by
  simp [h]
theorem getD_set_other {listed : Array Bool} {i j : Nat} (d : Bool) (h : i ≠ j) : (listed.setIfInBounds i true).getD j d = listed.getD j d := by
  simp [Array.getElem?_setIfInBounds_ne h]
theorem getD_irrel {listed : Array Bool} {i : Nat} (h : i < listed.size) (d d' : Bool) : listed.getD i d = listed.getD i d' := by simp [h]

theorem lastW_congr {ops : Array Oper} {p q : Nat → Bool} {t : Tmp} (h : ∀ j o, ops[j]? = some o → o.dst = some t → p j = q j) : lastW ops p t = lastW ops q t := by
  unfold lastW
  have aux : ∀ l : List Nat, l.find? (fun j => p j && ((ops[j]?).bind (·.dst) == some t)) = l.find? (fun j => q j && ((ops[j]?).bind (·.dst) == some t)) := by
    intro l
    induction l with
    | nil => rfl
    | cons j l ih =>
      have e : (p j && ((ops[j]?).bind (·.dst) == some t)) = (q j && ((ops[j]?).bind (·.dst) == some t)) := by
        cases ho : ops[j]? with
        | none => simp
        | some o =>
          by_cases hd : o.dst = some t
          · rw [h j o ho hd]
          · simp [show (o.dst == some t) = false from by simpa using hd]
      simp only [List.find?_cons, e, ih]
  exact aux _

theorem lastW_set {ops : Array Oper} {p : Nat → Bool} {i : Nat} {o : Oper} {t : Tmp} (ho : ops[i]? = some o) (hd : o.dst = some t) (hp : p i = true)
    (hno : ∀ j oj, ops[j]? = some oj → oj.dst = some t → i < j → p j = false) : lastW ops p t = some i := by
  unfold lastW
  have hi : i < ops.size := (Array.getElem?_eq_some_iff.1 ho).1
  have : (List.range ops.size) = List.range (i + 1) ++ (List.range' (i + 1) (ops.size - (i + 1))) := by
    rw [List.range_eq_range', List.range_eq_range']
    have := List.range'_append_1 (s := 0) (m := i + 1) (n := ops.size - (i + 1))
    rw [Nat.zero_add] at this
    rw [this]; congr 1; omega
  rw [this, List.reverse_append, List.find?_append]
  rw [List.find?_eq_none.2]
  · rw [List.range_succ, List.reverse_append]
    simp [ho, hd, hp]
  · intro x hx
    simp only [List.mem_reverse, List.mem_range'_1] at hx
    cases hox : ops[x]? with
    | none => simp
    | some ox =>
      by_cases hdx : ox.dst = some t
      · simp [hno x ox hox hdx (by omega)]
      · simp [hdx]

section
variable {P : Program} {ops : Array Oper} {Q : Exit → Act → World → Prop} {R : World → World → Prop} {V : Nat → World → Value → Prop} {a0 : Act} {w0 : World} {E : Act → World → Prop}

/-- what is known between two operations -/
structure Inv (ops : Array Oper) (m : Nat) (R : World → World → Prop) (V : Nat → World → Value → Prop) (a0 : Act) (w0 : World) (listed : Array Bool) (a : Act) (w : World) : Prop where
  step : R w0 w
  size : a.tmps.size = a0.tmps.size
  defers : a.defers = a0.defers
  lsize : listed.size = ops.size
  closed : Closed ops listed
  tail : ∀ j, m ≤ j → listed.getD j false = false
  tmps : ∀ t, match lastW ops (fun j => listed.getD j false) t with
    | some j => V j w (a.tmps[t]?.getD undef)
    | none => a.tmps[t]?.getD undef = a0.tmps[t]?.getD undef

theorem opsHold_at : ∀ (os : List Oper) (rs : List (Reads × GuardT)) (k i : Nat) (o : Oper) (r : Reads) (g : GuardT), OpsHold P Q R V a0 w0 k os rs → os[i]? = some o → rs[i]? = some (r, g) →
    ∀ a w, R w0 w → Deps V a0 a w r → OpGoal P Q R V o g (k + i) a w
  | [], _, _, i, o, r, g, _, ho, _ => by simp at ho
  | o' :: os, [], _, i, o, r, g, _, _, hr => by simp at hr
  | o' :: os, (r', g') :: rs, k, 0, o, r, g, h, ho, hr => by
    simp at ho hr
    obtain ⟨rfl, rfl⟩ := hr
    subst ho
    exact h.1
  | o' :: os, (r', g') :: rs, k, i + 1, o, r, g, h, ho, hr => by
    have := opsHold_at os rs (k + 1) i o r g h.2 (by simpa using ho) (by simpa using hr)
    rw [show k + 1 + i = k + (i + 1) from by omega] at this
    exact this

theorem deps_of (a : Act) (w : World) : ∀ r : Reads, (∀ x ∈ r, Dep V a0 a w x) → Deps V a0 a w r
  | [], _ => trivial
  | x :: r, h => ⟨h x (by simp), deps_of a w r fun y hy => h y (by simp [hy])⟩

theorem unlisted_set {listed : Array Bool} {i : Nat} (h : listed.getD i true = false) (n : Nat) (hn : (listed.toList.count false) ≤ n + 1) : ((listed.setIfInBounds i true).toList.count false) ≤ n := by
  have hi : i < listed.size := by
    rcases Nat.lt_or_ge i listed.size with h' | h'
    · exact h'
    · simp [Array.getElem?_eq_none h'] at h
  have hv : listed[i] = false := by simpa [hi] using h
  rw [Array.toList_setIfInBounds]
  have hl : i < listed.toList.length := by simpa using hi
  rw [List.count_set hl]
  have : listed.toList[i] = false := by simpa using hv
  rw [this]
  simp only [beq_self_eq_true, if_true]
  have hb : (true == false) = false := rfl
  rw [hb]
  simp only [Bool.false_eq_true, if_false]
  omega

theorem all_of_ready {md : Region.Mode} {listed : Array Bool} {A : List Nat} (hm : md = .any) (hA : edgesOk ops A = true) (hs : listed.size = ops.size) (h : Region.ready md ops listed = []) :
    ∀ j, j < ops.size → listed.getD j false = true := by
  subst hm
  intro j
  induction j using Nat.strongRecOn with
  | _ j ih =>
    intro hj
    cases hl : listed.getD j false with
    | true => rfl
    | false =>
      exfalso
      have ho := Array.getElem?_eq_getElem hj
      have h1 := List.all_eq_true.1 hA j (List.mem_range.2 hj)
      simp only [ho, Bool.and_eq_true, beq_iff_eq, List.all_eq_true, Bool.or_eq_true, Bool.not_eq_true', decide_eq_true_eq] at h1
      have : j ∈ Region.ready .any ops listed := mem_ready.2 ⟨by rw [getD_irrel (by omega) true false]; exact hl, _, ho, fun e he hb => ih e.on ((h1.2 e (by simpa using he)).resolve_left (by simp [hb])) (by have := (h1.2 e (by simpa using he)).resolve_left (by simp [hb]); omega)⟩
      rw [h] at this
      cases this

theorem wanted_iff {o : Oper} {k : Nat} {want : Bool} {t : Tmp} {a : Act} (hg : o.guard = some (k, want)) (hk : (ops[k]?).bind (·.dst) = some t) :
    Region.wanted o (yielded ops a.tmps) = true ↔ a.tmps[t]?.getD undef = .bool want := by
  unfold Region.wanted yielded
  rw [hg]
  simp only []
  rw [hk]
  simp only [Option.bind_some]
  cases h : a.tmps[t]? with
  | none => simp [undef]
  | some v => cases v <;> simp

/-- the tail: one behind the other, in the text's order -/
theorem wpAny_tail {A : List Nat} {m : Nat} (hA : edgesOk ops A = true) (hT : tailOk ops A m = true) :
    ∀ (fuel k : Nat) (listed : Array Bool) (a : Act) (w : World), m ≤ k → ops.size ≤ k + fuel → k ≤ ops.size → listed.size = ops.size → (∀ j, listed.getD j false = decide (j < k)) →
      wpList P ops Q (ops.toList.drop k) a w → wpAny P .any ops Q fuel listed a w := by
  simp only [tailOk, Bool.and_eq_true, decide_eq_true_eq, List.all_eq_true, Bool.or_eq_true, List.mem_range] at hT
  have ready_at : ∀ (k : Nat) (listed : Array Bool), m ≤ k → k ≤ ops.size → listed.size = ops.size → (∀ j, listed.getD j false = decide (j < k)) → ∀ i, i ∈ Region.ready .any ops listed ↔ i = k ∧ k < ops.size := by
    intro k listed hmk hk hs hl i
    constructor
    · intro hi
      obtain ⟨hun, o, ho, hd⟩ := mem_ready.1 hi
      have hisz := (Array.getElem?_eq_some_iff.1 ho).1
      have hik : ¬ i < k := by
        have := hl i
        rw [getD_irrel (by omega) false true, hun] at this
        simpa using this.symm
      rcases Nat.lt_or_ge k i with hlt | hge
      · exfalso
        have hb := (hT.2 i hisz).resolve_left (by omega) k hlt
        have hcl : Closed ops listed := by
          intro j oj hoj hlj e he hbe
          have h1 := List.all_eq_true.1 hA j (List.mem_range.2 (Array.getElem?_eq_some_iff.1 hoj).1)
          simp only [hoj, Bool.and_eq_true, beq_iff_eq, List.all_eq_true, Bool.or_eq_true, Bool.not_eq_true', decide_eq_true_eq] at h1
          have := (h1.2 e (by simpa using he)).resolve_left (by simp [hbe])
          rw [hl] at hlj ⊢
          simp at hlj ⊢
          omega
        have := closed_anc hA hcl i o ho hd k hb
        rw [hl] at this
        simp at this
      · exact ⟨by omega, by omega⟩
    · rintro ⟨rfl, hlt⟩
      refine mem_ready.2 ⟨by rw [getD_irrel (by omega) true false, hl]; simp, _, Array.getElem?_eq_getElem hlt, fun e he hbe => ?_⟩
      have h1 := List.all_eq_true.1 hA i (List.mem_range.2 hlt)
      simp only [Array.getElem?_eq_getElem hlt, Bool.and_eq_true, beq_iff_eq, List.all_eq_true, Bool.or_eq_true, Bool.not_eq_true', decide_eq_true_eq] at h1
      have := (h1.2 e (by simpa using he)).resolve_left (by simp [hbe])
      rw [hl]; simpa using this
  intro fuel
  induction fuel with
  | zero =>
    intro k listed a w hmk hf hk hs hl h
    obtain rfl : k = ops.size := by omega
    have hr : Region.ready .any ops listed = [] := by
      refine List.eq_nil_iff_forall_not_mem.2 fun i hi => ?_
      have := (ready_at ops.size listed hmk hk hs hl i).1 hi
      omega
    refine ⟨hr, ?_⟩
    rw [List.drop_of_length_le (by simp)] at h
    exact h
  | succ fuel ih =>
    intro k listed a w hmk hf hk hs hl h
    refine ⟨fun hr => ?_, fun i hi => ?_⟩
    · rcases Nat.lt_or_ge k ops.size with hlt | hge
      · have := (ready_at k listed hmk hk hs hl k).2 ⟨rfl, hlt⟩
        rw [hr] at this; cases this
      · rw [List.drop_of_length_le (by simpa using hge)] at h
        exact h
    · obtain ⟨rfl, hlt⟩ := (ready_at k listed hmk hk hs hl i).1 hi
      have hdrop : ops.toList.drop i = ops[i] :: ops.toList.drop (i + 1) := by
        rw [List.drop_eq_getElem_cons (by simpa using hlt)]; simp
      rw [hdrop] at h
      have hl' : ∀ j, (listed.setIfInBounds i true).getD j false = decide (j < i + 1) := by
        intro j
        by_cases hji : i = j
        · subst hji; rw [getD_set_self (by omega)]; simp
        · rw [getD_set_other _ hji, hl]; simp; omega
      have next : ∀ a' w', wpList P ops Q (ops.toList.drop (i + 1)) a' w' → wpAny P .any ops Q fuel (listed.setIfInBounds i true) a' w' := fun a' w' h' =>
        ih (i + 1) _ a' w' (by omega) (by omega) (by omega) (by simpa using hs) hl' h'
      unfold wpList at h
      unfold wpOp
      simp only [Array.getElem?_eq_getElem hlt]
      split
      · rename_i hw
        rw [if_pos hw] at h
        exact h.imp (Oper.wp_mono next) id
      · rename_i hw
        rw [if_neg hw] at h
        exact next _ _ h

theorem wpAny_inv {A : List Nat} {reads : List (Reads × GuardT)} (hA : edgesOk ops A = true) (hP : pairsOk ops A = true) (hR : readsOk ops reads a0.tmps.size = true) (hT : tailOk ops A reads.length = true)
    (hrf : ∀ w, R w w) (htr : ∀ a b c, R a b → R b c → R a c) (hst : ∀ i w w' v, R w w' → V i w v → V i w' v)
    (hops : OpsHold P Q R V a0 w0 0 ops.toList reads)
    (hend : ∀ listed a w, (∀ j, listed.getD j false = decide (j < reads.length)) → Inv ops reads.length R V a0 w0 listed a w → wpList P ops Q (ops.toList.drop reads.length) a w) :
    ∀ (fuel : Nat) (listed : Array Bool) (a : Act) (w : World), listed.toList.count false ≤ fuel → Inv ops reads.length R V a0 w0 listed a w → wpAny P .any ops Q fuel listed a w := by
  have hT0 := hT
  simp only [tailOk, Bool.and_eq_true, decide_eq_true_eq, List.all_eq_true, Bool.or_eq_true, List.mem_range] at hT0
  -- when all of the head has come up
  have fin : ∀ (fuel : Nat) (listed : Array Bool) (a : Act) (w : World), listed.toList.count false ≤ fuel → Inv ops reads.length R V a0 w0 listed a w → (∀ j, j < reads.length → listed.getD j false = true) → wpAny P .any ops Q fuel listed a w := by
    intro fuel listed a w hf hi hall
    have hl : ∀ j, listed.getD j false = decide (j < reads.length) := by
      intro j
      rcases Nat.lt_or_ge j reads.length with h | h
      · rw [hall j h]; simp [h]
      · rw [hi.tail j h]; simp; omega
    refine wpAny_tail hA hT fuel reads.length listed a w (Nat.le_refl _) ?_ hT0.1 hi.lsize hl (hend listed a w hl hi)
    -- those that are not listed are as many as the tail is long
    have : (listed.toList.drop reads.length).count false = listed.size - reads.length := by
      have h1 : listed.toList.drop reads.length = List.replicate (listed.size - reads.length) false := by
        refine List.ext_getElem (by simp) fun j h1 h2 => ?_
        simp only [List.getElem_drop, List.getElem_replicate]
        have h3 : reads.length + j < listed.size := by simp at h1; omega
        have h4 := hi.tail (reads.length + j) (by omega)
        simpa [h3] using h4
      rw [h1, List.count_replicate_self]
    have h2 : (listed.toList.drop reads.length).count false ≤ listed.toList.count false := List.Sublist.count_le _ (List.drop_sublist _ _)
    have := hi.lsize
    omega
  -- before that, nothing of the tail may come up
  have low : ∀ (listed : Array Bool), listed.size = ops.size → Closed ops listed → ∀ i, i ∈ Region.ready .any ops listed → reads.length ≤ i → ∀ j, j < reads.length → listed.getD j false = true := by
    intro listed hs hc i hi hm j hj
    obtain ⟨hun, o, ho, hd⟩ := mem_ready.1 hi
    have hisz := (Array.getElem?_eq_some_iff.1 ho).1
    exact closed_anc hA hc i o ho hd j ((hT0.2 i hisz).resolve_left (by omega) j (by omega))
  intro fuel
  induction fuel with
  | zero =>
    intro listed a w hf hi
    refine fin 0 listed a w hf hi fun j hj => ?_
    have hjs : j < listed.size := by have := hi.lsize; omega
    cases hl : listed.getD j false with
    | true => rfl
    | false =>
      exfalso
      have hv : listed[j] = false := by simpa [hjs] using hl
      have : 0 < listed.toList.count false := List.count_pos_iff.2 (by rw [← hv]; simp)
      omega
  | succ fuel ih =>
    intro listed a w hf hi
    by_cases hall : ∀ j, j < reads.length → listed.getD j false = true
    · exact fin (fuel + 1) listed a w hf hi hall
    refine ⟨fun h => absurd (fun j hj => all_of_ready rfl hA hi.lsize h j (by omega)) hall, fun i hir => ?_⟩
    have him : i < reads.length := by
      rcases Nat.lt_or_ge i reads.length with h | h
      · exact h
      · exact absurd (low listed hi.lsize hi.closed i hir h) hall
    obtain ⟨hun, o, ho, hdeps⟩ := mem_ready.1 hir
    have hisz : i < ops.size := (Array.getElem?_eq_some_iff.1 ho).1
    have hun' : listed.getD i false = false := by rw [getD_irrel (by rw [hi.lsize]; exact hisz) false true]; exact hun
    simp only [readsOk, List.all_eq_true] at hR
    have hRi := hR i (List.mem_range.2 him)
    have hri : reads[i]? = some (reads[i]'(by omega)) := List.getElem?_eq_getElem (by omega)
    generalize hrg : reads[i]'(by omega) = rg at hri
    obtain ⟨r, g⟩ := rg
    rw [ho, hri] at hRi
    simp only [Bool.and_eq_true, List.all_eq_true] at hRi
    obtain ⟨⟨hr, hdst⟩, hg⟩ := hRi
    -- ancestors of i are listed; descendants are not
    have hanc : ∀ k, (A.getD i 0).testBit k = true → listed.getD k false = true := closed_anc hA hi.closed i o ho hdeps
    have hdesc : ∀ j oj, ops[j]? = some oj → (A.getD j 0).testBit i = true → listed.getD j false = false := by
      intro j oj hoj hb
      cases hl : listed.getD j false with
      | false => rfl
      | true =>
        have := closed_anc hA hi.closed j oj hoj (hi.closed j oj hoj hl) i hb
        rw [this] at hun'; cases hun'
    have pair : ∀ i' j' oi' oj', i' < j' → ops[i']? = some oi' → ops[j']? = some oj' → (A.getD j' 0).testBit i' = true ∨ ((∀ t, oi'.dst = some t → t ∉ names ops oj') ∧ ∀ t, oj'.dst = some t → t ∉ oi'.looksAt ops) := by
      intro i' j' oi' oj' hlt hoi hoj
      have h1 := List.all_eq_true.1 hP j' (List.mem_range.2 (Array.getElem?_eq_some_iff.1 hoj).1)
      simp only [hoj, List.all_eq_true, List.mem_range] at h1
      have h2 := h1 i' hlt
      simp only [hoi, Bool.or_eq_true, Bool.and_eq_true] at h2
      rcases h2 with h2 | ⟨h2, h3⟩
      · exact .inl h2
      · refine .inr ⟨fun t ht => ?_, fun t ht => ?_⟩
        · simp [ht] at h2; exact h2
        · simp [ht] at h3; exact h3
    -- the writers that are listed of what i looks at are those ahead of it
    have hlook : ∀ t ∈ o.looksAt ops, lastW ops (fun j => listed.getD j false) t = lastW ops (fun j => decide (j < i)) t := by
      intro t ht
      refine lastW_congr fun j oj hoj hd => ?_
      rcases Nat.lt_trichotomy j i with hlt | rfl | hgt
      · have := (pair j i oj o hlt hoj ho).resolve_right (fun h => h.1 t hd (List.mem_append_right _ ht))
        simp [hlt, hanc j this]
      · simp [hun']
      · have := (pair i j o oj hgt ho hoj).resolve_right (fun h => h.2 t hd ht)
        rw [hdesc j oj hoj this]
        symm; simp; omega
    have hD : Deps V a0 a w r := by
      refine deps_of a w r fun ⟨t, j⟩ hx => ?_
      have h1 := hr (t, j) hx
      simp only [beq_iff_eq, List.contains_iff_mem] at h1
      have h2 := hi.tmps t
      rw [hlook t h1.1, h1.2] at h2
      cases j <;> exact h2
    have hgoal := opsHold_at ops.toList reads 0 i o r g hops (by simpa using ho) hri a w hi.step hD
    rw [Nat.zero_add] at hgoal
    -- behind operation i
    have next : ∀ v w', R w w' → V i w' v → wpAny P .any ops Q fuel (listed.setIfInBounds i true) (a.put o.dst v) w' := by
      intro v w' hww hv
      refine ih _ _ _ (unlisted_set hun fuel hf) ⟨htr _ _ _ hi.step hww, ?_, ?_, by simp [hi.lsize], ?_, fun j hj => ?_, ?_⟩
      · cases hd : o.dst <;> simp [Act.put, hi.size]
      · cases hd : o.dst <;> simp [Act.put, hi.defers]
      · intro j oj hoj hl e he hb
        by_cases hji : i = j
        · subst hji
          rw [ho] at hoj
          obtain rfl := Option.some.inj hoj
          by_cases hei : i = e.on
          · rw [← hei]; exact getD_set_self (by rw [hi.lsize]; exact hisz) _
          · rw [getD_set_other _ hei]; exact hdeps e he hb
        · rw [getD_set_other _ hji] at hl
          by_cases hei : i = e.on
          · rw [← hei]; exact getD_set_self (by rw [hi.lsize]; exact hisz) _
          · rw [getD_set_other _ hei]; exact hi.closed j oj hoj hl e he hb
      · rw [getD_set_other _ (by omega)]; exact hi.tail j hj
      · intro t
        by_cases hd : o.dst = some t
        · rw [lastW_set ho hd (p := fun j => (listed.setIfInBounds i true).getD j false) (getD_set_self (by rw [hi.lsize]; exact hisz) _) (fun j oj hoj hdj hlt => by
            have := (pair i j o oj hlt ho hoj).resolve_right (fun h => h.1 t hd (by simp [names, hdj]))
            rw [getD_set_other _ (by omega)]
            exact hdesc j oj hoj this)]
          have htn : t < a.tmps.size := by rw [hi.size]; simpa [hd] using hdst
          simp only [hd, Act.put]
          simpa [htn] using hv
        · rw [lastW_congr (q := fun j => listed.getD j false) (fun j oj hoj hdj => by
            by_cases hji : i = j
            · subst hji; rw [ho] at hoj; obtain rfl := Option.some.inj hoj; exact absurd hdj hd
            · exact getD_set_other _ hji)]
          have h2 := hi.tmps t
          have same : (a.put o.dst v).tmps[t]?.getD undef = a.tmps[t]?.getD undef := by
            cases hdd : o.dst with
            | none => rfl
            | some d =>
              have hne : d ≠ t := fun e => hd (by rw [hdd, e])
              simp [Act.put, Array.getElem?_setIfInBounds_ne hne]
          rw [same]
          revert h2
          cases lastW ops (fun j => listed.getD j false) t with
          | none => exact id
          | some j => exact hst j _ _ _ hww
    unfold wpOp
    simp only [ho]
    cases hgg : o.guard with
    | none =>
      rw [hgg] at hg
      cases g with
      | some _ => simp at hg
      | none =>
        rw [if_pos (by simp [Region.wanted, hgg])]
        exact .inl (hgoal _ next)
    | some kw =>
      obtain ⟨k, want⟩ := kw
      rw [hgg] at hg
      cases g with
      | none => simp at hg
      | some tw =>
        obtain ⟨t, want'⟩ := tw
        simp only [Bool.and_eq_true, beq_iff_eq] at hg
        obtain ⟨rfl, hk⟩ := hg
        have hw := wanted_iff (a := a) hgg hk
        by_cases hv : a.tmps[t]?.getD undef = .bool want
        · rw [if_pos (hw.2 hv)]
          exact .inl (hgoal.1 hv _ next)
        · rw [if_neg (fun h => hv (hw.1 h))]
          exact next undef w (hrf w) (hgoal.2 hv)

theorem endHold_at (v : Nat → Value) (w : World) (hR : R w0 w) : ∀ (fin : List (Tmp × Nat)) (F : World → Prop) (a : Act), EndHold R V w0 E F fin a → F w → (∀ x ∈ fin, V x.2 w (v x.1)) →
    E (fin.foldl (fun a x => a.put (some x.1) (v x.1)) a) w
  | [], _, _, h, hF, _ => h w hR hF
  | x :: fin, _, _, h, hF, hx => endHold_at v w hR fin _ _ (h (v x.1)) ⟨hF, hx x (by simp)⟩ (fun y hy => hx y (by simp [hy]))

theorem foldl_put (v : Nat → Value) : ∀ (fin : List (Tmp × Nat)) (a : Act),
    (fin.foldl (fun a x => a.put (some x.1) (v x.1)) a).tmps.size = a.tmps.size ∧ (fin.foldl (fun a x => a.put (some x.1) (v x.1)) a).defers = a.defers ∧
    ∀ t, t < a.tmps.size → (fin.foldl (fun a x => a.put (some x.1) (v x.1)) a).tmps[t]? = if t ∈ fin.map (·.1) then some (v t) else a.tmps[t]?
  | [], a => ⟨rfl, rfl, fun t _ => by simp⟩
  | x :: fin, a => by
    have h := foldl_put v fin (a.put (some x.1) (v x.1))
    simp only [List.foldl_cons]
    have hs : (a.put (some x.1) (v x.1)).tmps.size = a.tmps.size := by simp [Act.put]
    refine ⟨h.1.trans hs, h.2.1.trans rfl, fun t ht => ?_⟩
    rw [h.2.2 t (by rw [hs]; exact ht)]
    by_cases hm : t ∈ fin.map (·.1)
    · rw [if_pos hm, if_pos (by simp only [List.map_cons]; exact List.mem_cons_of_mem _ hm)]
    · rw [if_neg hm]
      by_cases hx : t = x.1
      · subst hx
        rw [if_pos (by simp)]
        simp [Act.put, ht]
      · rw [if_neg (by simp only [List.map_cons, List.mem_cons, not_or]; exact ⟨hx, hm⟩)]
        simp [Act.put, Array.getElem?_setIfInBounds_ne (Ne.symm hx)]

/-- **A region that draws its order, each operation by itself.** R: what may become of the world (reflexive, transitive); V i: what operation i leaves in its temporary (kept by R). Behind the head (as many operations as 'reads' has) the tail goes in the text's order. -/
theorem wp_region_each {id : Nat} {n : Nat} (V : Nat → World → Value → Prop) (R : World → World → Prop) (reads : List (Reads × GuardT)) (fin : List (Tmp × Nat)) {l : List Oper} (tail : List Oper) (hn : a0.tmps.size = n) (hk : regionOk l.toArray reads fin n = true) (hd : l.drop reads.length = tail) (hm : P.follows .mixedOrders = true)
    (hrf : ∀ w, R w w) (htr : ∀ a b c, R a b → R b c → R a c) (hst : ∀ i w w' v, R w w' → V i w v → V i w' v)
    (hops : OpsHold P Q R V a0 w0.drew 0 l reads)
    (hend : EndHold R V w0.drew (wpList P l.toArray Q tail) (fun _ => True) fin a0) :
    (Code.region id l.toArray true).wp P Q a0 w0 := by
  subst hn
  subst hd
  simp only [regionOk, Bool.and_eq_true] at hk
  obtain ⟨⟨⟨⟨hA, hP⟩, hR⟩, hF⟩, hT⟩ := hk
  refine wp_region_any hm ?_
  refine wpAny_inv (w0 := w0.drew) hA hP hR hT hrf htr hst hops ?_ _ _ _ _ (Nat.le_trans List.count_le_length (by simp)) ⟨hrf _, rfl, rfl, by simp, ?_, ?_, ?_⟩
  · intro listed a w hl hi
    simp only [finalOk, Bool.and_eq_true, List.all_eq_true, beq_iff_eq] at hF
    have hF2 : ∀ (j : Nat) (o : Oper) (t : Tmp), l.toArray[j]? = some o → j < reads.length → o.dst = some t → t ∈ fin.map (·.1) := by
      intro j o t ho hj hd
      have := hF.2 o (by
        have h1 : (l.take reads.length)[j]? = some o := by rw [List.getElem?_take_of_lt hj]; simpa using ho
        exact List.mem_of_getElem? h1)
      rw [hd] at this
      simpa using this
    have hlast : ∀ t, lastW l.toArray (fun j => listed.getD j false) t = lastW l.toArray (fun j => decide (j < reads.length)) t := fun t =>
      lastW_congr fun j o ho _ => hl j
    have e : fin.foldl (fun a' x => a'.put (some x.1) ((fun t => a.tmps[t]?.getD undef) x.1)) a0 = a := by
      have h := foldl_put (fun t => a.tmps[t]?.getD undef) fin a0
      have hd : (fin.foldl (fun a' x => a'.put (some x.1) ((fun t => a.tmps[t]?.getD undef) x.1)) a0).defers = a.defers := h.2.1.trans hi.defers.symm
      have ht : (fin.foldl (fun a' x => a'.put (some x.1) ((fun t => a.tmps[t]?.getD undef) x.1)) a0).tmps = a.tmps := by
        refine Array.ext_getElem? fun t => ?_
        rcases Nat.lt_or_ge t a0.tmps.size with hlt | hge
        · rw [h.2.2 t hlt]
          have hat : a.tmps[t]? = some (a.tmps[t]?.getD undef) := by
            have : t < a.tmps.size := by rw [hi.size]; exact hlt
            simp [this]
          by_cases hm : t ∈ fin.map (·.1)
          · rw [if_pos hm]; exact hat.symm
          · rw [if_neg hm]
            have h2 := hi.tmps t
            have hnone : lastW l.toArray (fun j => listed.getD j false) t = none := by
              unfold lastW
              rw [List.find?_eq_none]
              intro j _
              cases ho : l.toArray[j]? with
              | none => simp
              | some o =>
                by_cases hdo : o.dst = some t
                · rcases Nat.lt_or_ge j reads.length with hj | hj
                  · exact absurd (hF2 j o t ho hj hdo) hm
                  · simp only [hi.tail j hj]; simp
                · simp [hdo]
            rw [hnone] at h2
            rw [hat, h2]
            simp [hlt]
        · rw [Array.getElem?_eq_none (by rw [h.1]; exact hge), Array.getElem?_eq_none (by rw [hi.size]; exact hge)]
      generalize fin.foldl (fun a' x => a'.put (some x.1) ((fun t => a.tmps[t]?.getD undef) x.1)) a0 = z at hd ht
      cases z; cases a; simp_all
    have := endHold_at (fun t => a.tmps[t]?.getD undef) w hi.step fin _ a0 hend trivial (fun x hx => by
      have h1 := hF.1 x hx
      have h2 := hi.tmps x.1
      rw [hlast, h1] at h2
      exact h2)
    rw [e] at this
    exact this
  · intro j o ho hl
    exfalso
    have hj : j < l.length := by simpa using (Array.getElem?_eq_some_iff.1 ho).1
    simp [hj] at hl
  · intro j _
    rcases Nat.lt_or_ge j l.length with h | h
    · simp [h]
    · simp [h]
  · intro t
    have : lastW l.toArray (fun j => (Array.replicate l.toArray.size false).getD j false) t = none := by
      unfold lastW
      rw [List.find?_eq_none]
      intro j hj
      have hj : j < l.length := by simpa using hj
      simp [hj]
    rw [this]

/-- the predicates as a list -/
def at_ (Vs : List (World → Value → Prop)) (i : Nat) : World → Value → Prop := Vs.getD i (fun _ _ => True)
def Stable (R : World → World → Prop) : List (World → Value → Prop) → Prop
  | [] => True
  | V :: Vs => (∀ w w' v, R w w' → V w v → V w' v) ∧ Stable R Vs
theorem stable_at : ∀ (Vs : List (World → Value → Prop)), Stable R Vs → ∀ i w w' v, R w w' → at_ Vs i w v → at_ Vs i w' v
  | [], _, _, _, _, _, _, _ => trivial
  | _ :: _, h, 0, w, w', v, hr, hv => h.1 w w' v hr hv
  | _ :: Vs, h, i + 1, w, w', v, hr, hv => stable_at Vs h.2 i w w' v hr hv
end

/-- the world has only grown -/
def Grew (w w' : World) : Prop := Below w.heap.size w w'
theorem Grew.refl (w : World) : Grew w w := Below.refl _ _
theorem Grew.trans {a b c : World} (h : Grew a b) (k : Grew b c) : Grew a c := by
  have k' : Below a.heap.size b c := Below.mono k h.size
  exact Below.trans h k'
theorem Grew.drew (w : World) : Grew w w.drew := ⟨rfl, rfl, rfl, Nat.le_refl _, fun _ _ => rfl⟩
theorem Grew.drewN (w : World) (n : Nat) : Grew w (w.drewN n) := ⟨rfl, rfl, rfl, Nat.le_refl _, fun _ _ => rfl⟩
theorem Grew.alloc (w : World) (o : Obj) : Grew w (w.alloc o) := (Below.refl _ _).alloc (Nat.le_refl _) o

/-- exactly this value -/
def Is (x : Value) : World → Value → Prop := fun _ v => v = x
theorem Is.stable {R : World → World → Prop} (x : Value) : ∀ w w' v, R w w' → Is x w v → Is x w' v := fun _ _ _ _ h => h
/-- a call's end: it returns what V says, and the world has only grown -/
def Tells (w : World) (V : World → Value → Prop) (e : Ending) (w' : World) : Prop := ∃ v, e = .returned v ∧ V w' v ∧ Grew w w'
theorem tells_is {P : Program} {f : FuncId} {args : Array Value} {w : World} {x : Value} (h : Calls P f args w fun e w' => e = .returned x ∧ Below w.heap.size w w') : Calls P f args w (Tells w (Is x)) :=
  h.mono fun _ _ ⟨he, hw⟩ => ⟨x, he, rfl, hw⟩
theorem is_tells {P : Program} {f : FuncId} {args : Array Value} {w : World} {x : Value} (h : Calls P f args w (Tells w (Is x))) : Calls P f args w fun e w' => e = .returned x ∧ Below w.heap.size w w' :=
  h.mono fun _ _ ⟨_, he, hx, hw⟩ => ⟨hx ▸ he, hw⟩

section
variable {R : World → World → Prop} {V : Nat → World → Value → Prop} {w0 : World} {E : Act → World → Prop}
theorem endHold_mono : ∀ (fin : List (Tmp × Nat)) (F F' : World → Prop) (a : Act), (∀ w, F' w → F w) → EndHold R V w0 E F fin a → EndHold R V w0 E F' fin a
  | [], _, _, _, h, k => fun w hR hF => k w hR (h w hF)
  | _ :: fin, _, _, _, h, k => fun v => endHold_mono fin _ _ _ (fun w ⟨h1, h2⟩ => ⟨h w h1, h2⟩) (k v)
theorem endHold_never : ∀ (fin : List (Tmp × Nat)) (F : World → Prop) (a : Act), (∀ w, ¬ F w) → EndHold R V w0 E F fin a
  | [], _, _, h => fun w _ hF => absurd hF (h w)
  | _ :: fin, _, _, h => fun _ => endHold_never fin _ _ (fun w ⟨h1, _⟩ => h w h1)
/-- what comes later, closed to the eye -/
structure Later (E : Act → World → Prop) (a : Act) (w : World) : Prop where
  now : E a w
theorem endHold_later : ∀ (fin : List (Tmp × Nat)) (F : World → Prop) (a : Act), EndHold R V w0 (Later E) F fin a → EndHold R V w0 E F fin a
  | [], _, _, k => fun w hR hF => (k w hR hF).now
  | _ :: fin, _, _, k => fun v => endHold_later fin _ _ (k v)
/-- temporaries whose values are known -/
def AllIs (V : Nat → World → Value → Prop) : List (Tmp × Nat) → List Value → Prop
  | [], [] => True
  | (_, j) :: fin, x :: xs => V j = Is x ∧ AllIs V fin xs
  | _, _ => False
def putEach : List (Tmp × Nat) → List Value → Act → Act
  | (t, _) :: fin, x :: xs, a => putEach fin xs (a.put (some t) x)
  | _, _, a => a
theorem end_all : ∀ {fin : List (Tmp × Nat)} {xs : List Value} {F : World → Prop} {a : Act}, AllIs V fin xs → (∀ w, R w0 w → F w → E (putEach fin xs a) w) → EndHold R V w0 E F fin a
  | [], [], _, _, _, k => k
  | (t, j) :: fin, x :: xs, F, a, h, k => fun v => by
    by_cases e : v = x
    · subst e
      exact endHold_mono fin _ _ _ (fun _ h => h.1) (end_all h.2 k)
    · exact endHold_never fin _ _ (fun w ⟨_, h2⟩ => e (by rw [h.1] at h2; exact h2))
  | [], _ :: _, _, _, h, _ => h.elim
  | _ :: _, [], _, _, h, _ => h.elim
end
def dropN {α β : Type} : List α → List β → List β
  | [], l => l
  | _ :: _, [] => []
  | _ :: r, _ :: l => dropN r l
theorem dropN_eq {α β : Type} : ∀ (r : List α) (l : List β), l.drop r.length = dropN r l
  | [], l => by simp [dropN]
  | _ :: _, [] => by simp [dropN]
  | _ :: r, _ :: l => by simp [dropN, dropN_eq r l]

/-- the rule for a region whose world only grows, its predicates as a list -/
theorem region_grew {P : Program} {Q : Exit → Act → World → Prop} {a0 : Act} {w0 : World} {id : Nat} {n : Nat} {l : List Oper} (Vs : List (World → Value → Prop)) (reads : List (Reads × GuardT)) (fin : List (Tmp × Nat))
    (hn : a0.tmps.size = n) (hk : regionOk l.toArray reads fin n = true) (hm : P.follows .mixedOrders = true)
    (hst : Stable Grew Vs)
    (hops : OpsHold P Q Grew (at_ Vs) a0 w0.drew 0 l reads)
    (hend : EndHold Grew (at_ Vs) w0.drew (Later (wpList P l.toArray Q (dropN reads l))) (fun _ => True) fin a0) :
    (Code.region id l.toArray true).wp P Q a0 w0 :=
  wp_region_each (at_ Vs) Grew reads fin _ hn hk (dropN_eq reads l) hm Grew.refl (fun _ _ _ => Grew.trans) (stable_at Vs hst) hops (endHold_later _ _ _ hend)
/-! ### one operation that turns what was there -/

/-- float: it doesn't look at the world; plain: it comes before the big one; big: it may turn what was there -/
inductive Phase where
  | float | plain | big
  deriving DecidableEq
def phaseOk (A : List Nat) (ks : List Phase) (m : Nat) : Bool :=
  ks.length == m && (List.range m).all fun j => match ks[j]? with
    | some .big => (List.range m).all fun i => i == j || ks[i]? == some .float || (A.getD j 0).testBit i
    | _ => true

section
variable (P : Program) (Q : Exit → Act → World → Prop) (R Rp : World → World → Prop) (V : Nat → World → Value → Prop) (a0 : Act) (w0 : World) (E : Act → World → Prop)
def PhGoal (o : Oper) (g : GuardT) (i : Nat) (r : Reads) : Phase → Prop
  | .plain => ∀ a w, R w0 w → Deps V a0 a w r → OpGoal P Q R V o g i a w
  | .float => ∀ a w, Deps V a0 a w r → OpGoal P Q (fun w w' => w' = w) V o g i a w
  | .big => o.guard = none ∧ ∀ a w, R w0 w → Deps V a0 a w r → ∀ K : Act → World → Prop, (∀ v w', Rp w w' → V i w' v → K (a.put o.dst v) w') → o.wp P a w K Q
def PhHold : Nat → List Oper → List (Reads × GuardT) → List Phase → Prop
  | i, o :: os, (r, g) :: rs, k :: ks => PhGoal P Q R Rp V a0 w0 o g i r k ∧ PhHold (i + 1) os rs ks
  | _, _, _, _ => True
end

section
variable {P : Program} {ops : Array Oper} {Q : Exit → Act → World → Prop} {R Rp : World → World → Prop} {V : Nat → World → Value → Prop} {a0 : Act} {w0 : World} {E : Act → World → Prop}
theorem phHold_at : ∀ (os : List Oper) (rs : List (Reads × GuardT)) (ks : List Phase) (k i : Nat) (o : Oper) (r : Reads) (g : GuardT) (p : Phase), PhHold P Q R Rp V a0 w0 k os rs ks → os[i]? = some o → rs[i]? = some (r, g) → ks[i]? = some p →
    PhGoal P Q R Rp V a0 w0 o g (k + i) r p
  | [], _, _, _, i, o, r, g, p, _, ho, _, _ => by simp at ho
  | o' :: os, [], _, _, i, o, r, g, p, _, _, hr, _ => by simp at hr
  | o' :: os, (r', g') :: rs, [], _, i, o, r, g, p, _, _, _, hk => by simp at hk
  | o' :: os, (r', g') :: rs, p' :: ks, k, 0, o, r, g, p, h, ho, hr, hk => by
    simp at ho hr hk
    obtain ⟨rfl, rfl⟩ := hr
    subst ho
    subst hk
    exact h.1
  | o' :: os, (r', g') :: rs, p' :: ks, k, i + 1, o, r, g, p, h, ho, hr, hk => by
    have := phHold_at os rs ks (k + 1) i o r g p h.2 (by simpa using ho) (by simpa using hr) (by simpa using hk)
    rw [show k + 1 + i = k + (i + 1) from by omega] at this
    exact this
/-- the big one has come -/
def BigIn (ks : List Phase) (listed : Array Bool) : Prop := ∃ p, ks[p]? = some .big ∧ listed.getD p false = true
/-- what is known between two operations -/
structure InvB (ops : Array Oper) (m : Nat) (R Rp : World → World → Prop) (V : Nat → World → Value → Prop) (ks : List Phase) (a0 : Act) (w0 : World) (listed : Array Bool) (a : Act) (w : World) : Prop where
  early : ¬ BigIn ks listed → R w0 w
  late : BigIn ks listed → ∃ w1, R w0 w1 ∧ Rp w1 w
  size : a.tmps.size = a0.tmps.size
  defers : a.defers = a0.defers
  lsize : listed.size = ops.size
  closed : Closed ops listed
  tail : ∀ j, m ≤ j → listed.getD j false = false
  tmps : ∀ t, match lastW ops (fun j => listed.getD j false) t with
    | some j => V j w (a.tmps[t]?.getD undef)
    | none => a.tmps[t]?.getD undef = a0.tmps[t]?.getD undef
theorem lastW_listed {ops : Array Oper} {p : Nat → Bool} {t : Tmp} {j : Nat} (h : lastW ops p t = some j) : p j = true := by
  unfold lastW at h
  have := List.find?_some h
  simp only [Bool.and_eq_true] at this
  exact this.1
theorem wpAny_invB {A : List Nat} {reads : List (Reads × GuardT)} {ks : List Phase} (hA : edgesOk ops A = true) (hP : pairsOk ops A = true) (hR : readsOk ops reads a0.tmps.size = true) (hT : tailOk ops A reads.length = true)
    (hrf : ∀ w, R w w) (htr : ∀ a b c, R a b → R b c → R a c) (hK : phaseOk A ks reads.length = true)
    (hst : ∀ i, ks[i]? ≠ some .big → ∀ w w' v, R w w' ∨ Rp w w' → V i w v → V i w' v)
    (hops : PhHold P Q R Rp V a0 w0 0 ops.toList reads ks)
    (hend : ∀ listed a w, (∀ j, listed.getD j false = decide (j < reads.length)) → InvB ops reads.length R Rp V ks a0 w0 listed a w → wpList P ops Q (ops.toList.drop reads.length) a w) :
    ∀ (fuel : Nat) (listed : Array Bool) (a : Act) (w : World), listed.toList.count false ≤ fuel → InvB ops reads.length R Rp V ks a0 w0 listed a w → wpAny P .any ops Q fuel listed a w := by
  have hT0 := hT
  simp only [tailOk, Bool.and_eq_true, decide_eq_true_eq, List.all_eq_true, Bool.or_eq_true, List.mem_range] at hT0
  -- when all of the head has come up
  have fin : ∀ (fuel : Nat) (listed : Array Bool) (a : Act) (w : World), listed.toList.count false ≤ fuel → InvB ops reads.length R Rp V ks a0 w0 listed a w → (∀ j, j < reads.length → listed.getD j false = true) → wpAny P .any ops Q fuel listed a w := by
    intro fuel listed a w hf hi hall
    have hl : ∀ j, listed.getD j false = decide (j < reads.length) := by
      intro j
      rcases Nat.lt_or_ge j reads.length with h | h
      · rw [hall j h]; simp [h]
      · rw [hi.tail j h]; simp; omega
    refine wpAny_tail hA hT fuel reads.length listed a w (Nat.le_refl _) ?_ hT0.1 hi.lsize hl (hend listed a w hl hi)
    -- those that are not listed are as many as the tail is long
    have : (listed.toList.drop reads.length).count false = listed.size - reads.length := by
      have h1 : listed.toList.drop reads.length = List.replicate (listed.size - reads.length) false := by
        refine List.ext_getElem (by simp) fun j h1 h2 => ?_
        simp only [List.getElem_drop, List.getElem_replicate]
        have h3 : reads.length + j < listed.size := by simp at h1; omega
        have h4 := hi.tail (reads.length + j) (by omega)
        simpa [h3] using h4
      rw [h1, List.count_replicate_self]
    have h2 : (listed.toList.drop reads.length).count false ≤ listed.toList.count false := List.Sublist.count_le _ (List.drop_sublist _ _)
    have := hi.lsize
    omega
  -- before that, nothing of the tail may come up
  have low : ∀ (listed : Array Bool), listed.size = ops.size → Closed ops listed → ∀ i, i ∈ Region.ready .any ops listed → reads.length ≤ i → ∀ j, j < reads.length → listed.getD j false = true := by
    intro listed hs hc i hi hm j hj
    obtain ⟨hun, o, ho, hd⟩ := mem_ready.1 hi
    have hisz := (Array.getElem?_eq_some_iff.1 ho).1
    exact closed_anc hA hc i o ho hd j ((hT0.2 i hisz).resolve_left (by omega) j (by omega))
  intro fuel
  induction fuel with
  | zero =>
    intro listed a w hf hi
    refine fin 0 listed a w hf hi fun j hj => ?_
    have hjs : j < listed.size := by have := hi.lsize; omega
    cases hl : listed.getD j false with
    | true => rfl
    | false =>
      exfalso
      have hv : listed[j] = false := by simpa [hjs] using hl
      have : 0 < listed.toList.count false := List.count_pos_iff.2 (by rw [← hv]; simp)
      omega
  | succ fuel ih =>
    intro listed a w hf hi
    by_cases hall : ∀ j, j < reads.length → listed.getD j false = true
    · exact fin (fuel + 1) listed a w hf hi hall
    refine ⟨fun h => absurd (fun j hj => all_of_ready rfl hA hi.lsize h j (by omega)) hall, fun i hir => ?_⟩
    have him : i < reads.length := by
      rcases Nat.lt_or_ge i reads.length with h | h
      · exact h
      · exact absurd (low listed hi.lsize hi.closed i hir h) hall
    obtain ⟨hun, o, ho, hdeps⟩ := mem_ready.1 hir
    have hisz : i < ops.size := (Array.getElem?_eq_some_iff.1 ho).1
    have hun' : listed.getD i false = false := by rw [getD_irrel (by rw [hi.lsize]; exact hisz) false true]; exact hun
    simp only [readsOk, List.all_eq_true] at hR
    have hRi := hR i (List.mem_range.2 him)
    have hri : reads[i]? = some (reads[i]'(by omega)) := List.getElem?_eq_getElem (by omega)
    generalize hrg : reads[i]'(by omega) = rg at hri
    obtain ⟨r, g⟩ := rg
    rw [ho, hri] at hRi
    simp only [Bool.and_eq_true, List.all_eq_true] at hRi
    obtain ⟨⟨hr, hdst⟩, hg⟩ := hRi
    -- ancestors of i are listed; descendants are not
    have hanc : ∀ k, (A.getD i 0).testBit k = true → listed.getD k false = true := closed_anc hA hi.closed i o ho hdeps
    have hdesc : ∀ j oj, ops[j]? = some oj → (A.getD j 0).testBit i = true → listed.getD j false = false := by
      intro j oj hoj hb
      cases hl : listed.getD j false with
      | false => rfl
      | true =>
        have := closed_anc hA hi.closed j oj hoj (hi.closed j oj hoj hl) i hb
        rw [this] at hun'; cases hun'
    have pair : ∀ i' j' oi' oj', i' < j' → ops[i']? = some oi' → ops[j']? = some oj' → (A.getD j' 0).testBit i' = true ∨ ((∀ t, oi'.dst = some t → t ∉ names ops oj') ∧ ∀ t, oj'.dst = some t → t ∉ oi'.looksAt ops) := by
      intro i' j' oi' oj' hlt hoi hoj
      have h1 := List.all_eq_true.1 hP j' (List.mem_range.2 (Array.getElem?_eq_some_iff.1 hoj).1)
      simp only [hoj, List.all_eq_true, List.mem_range] at h1
      have h2 := h1 i' hlt
      simp only [hoi, Bool.or_eq_true, Bool.and_eq_true] at h2
      rcases h2 with h2 | ⟨h2, h3⟩
      · exact .inl h2
      · refine .inr ⟨fun t ht => ?_, fun t ht => ?_⟩
        · simp [ht] at h2; exact h2
        · simp [ht] at h3; exact h3
    -- the writers that are listed of what i looks at are those ahead of it
    have hlook : ∀ t ∈ o.looksAt ops, lastW ops (fun j => listed.getD j false) t = lastW ops (fun j => decide (j < i)) t := by
      intro t ht
      refine lastW_congr fun j oj hoj hd => ?_
      rcases Nat.lt_trichotomy j i with hlt | rfl | hgt
      · have := (pair j i oj o hlt hoj ho).resolve_right (fun h => h.1 t hd (List.mem_append_right _ ht))
        simp [hlt, hanc j this]
      · simp [hun']
      · have := (pair i j o oj hgt ho hoj).resolve_right (fun h => h.2 t hd ht)
        rw [hdesc j oj hoj this]
        symm; simp; omega
    have hD : Deps V a0 a w r := by
      refine deps_of a w r fun ⟨t, j⟩ hx => ?_
      have h1 := hr (t, j) hx
      simp only [beq_iff_eq, List.contains_iff_mem] at h1
      have h2 := hi.tmps t
      rw [hlook t h1.1, h1.2] at h2
      cases j <;> exact h2
    simp only [phaseOk, Bool.and_eq_true, beq_iff_eq, List.all_eq_true, List.mem_range] at hK
    have hki : ks[i]? = some (ks[i]'(by omega)) := List.getElem?_eq_getElem (by omega)
    generalize hkk : ks[i]'(by omega) = kd at hki
    have hgoal := phHold_at ops.toList reads ks 0 i o r g kd hops (by simpa using ho) hri hki
    rw [Nat.zero_add] at hgoal
    have big_all : ∀ p, ks[p]? = some .big → ∀ j, j < reads.length → j ≠ p → ks[j]? = some .float ∨ (A.getD p 0).testBit j = true := by
      intro p hp j hj hne
      have hpl : p < reads.length := by
        have := (List.getElem?_eq_some_iff.1 hp).1
        omega
      have := hK.2 p hpl
      rw [hp] at this
      simp only [List.all_eq_true, List.mem_range, Bool.or_eq_true, beq_iff_eq] at this
      rcases this j hj with (h | h) | h
      · exact absurd h hne
      · exact .inl h
      · exact .inr h
    have noBig : kd ≠ .float → ¬ BigIn ks listed := by
      rintro hne ⟨p, hp, hl⟩
      by_cases hip : i = p
      · subst hip; rw [hun'] at hl; cases hl
      · rcases big_all p hp i him hip with h | h
        · rw [hki] at h; exact hne (Option.some.inj h)
        · have hpo : p < ops.size := by
            rcases Nat.lt_or_ge p ops.size with h' | h'
            · exact h'
            · rw [show listed.getD p false = false from by simp [Array.getElem?_eq_none (show listed.size ≤ p by rw [hi.lsize]; exact h')]] at hl; cases hl
          have := closed_anc hA hi.closed p _ (Array.getElem?_eq_getElem hpo) (hi.closed p _ (Array.getElem?_eq_getElem hpo) hl) i h
          rw [this] at hun'; cases hun'
    have bigSet : ∀ {k : Phase}, kd = k → k ≠ .big → (BigIn ks (listed.setIfInBounds i true) ↔ BigIn ks listed) := by
      intro k hk hne
      constructor
      · rintro ⟨p, hp, hl⟩
        by_cases hip : i = p
        · subst hip; rw [hki] at hp; exact absurd (hk.symm.trans (Option.some.inj hp)) hne
        · rw [getD_set_other _ hip] at hl; exact ⟨p, hp, hl⟩
      · rintro ⟨p, hp, hl⟩
        by_cases hip : i = p
        · subst hip; rw [hun'] at hl; cases hl
        · exact ⟨p, hp, by rw [getD_set_other _ hip]; exact hl⟩
    have notBig : ∀ j, listed.getD j false = true → ¬ BigIn ks listed → ks[j]? ≠ some .big := fun j hl hb h => hb ⟨j, h, hl⟩
    -- behind operation i
    have next : ∀ v w', (∀ j, j ≠ i → listed.getD j false = true → ∀ u, V j w u → V j w' u) → (¬ BigIn ks (listed.setIfInBounds i true) → R w0 w') → (BigIn ks (listed.setIfInBounds i true) → ∃ w1, R w0 w1 ∧ Rp w1 w') → V i w' v → wpAny P .any ops Q fuel (listed.setIfInBounds i true) (a.put o.dst v) w' := by
      intro v w' hww he hl hv
      refine ih _ _ _ (unlisted_set hun fuel hf) ⟨he, hl, ?_, ?_, by simp [hi.lsize], ?_, fun j hj => ?_, ?_⟩
      · cases hd : o.dst <;> simp [Act.put, hi.size]
      · cases hd : o.dst <;> simp [Act.put, hi.defers]
      · intro j oj hoj hl e he hb
        by_cases hji : i = j
        · subst hji
          rw [ho] at hoj
          obtain rfl := Option.some.inj hoj
          by_cases hei : i = e.on
          · rw [← hei]; exact getD_set_self (by rw [hi.lsize]; exact hisz) _
          · rw [getD_set_other _ hei]; exact hdeps e he hb
        · rw [getD_set_other _ hji] at hl
          by_cases hei : i = e.on
          · rw [← hei]; exact getD_set_self (by rw [hi.lsize]; exact hisz) _
          · rw [getD_set_other _ hei]; exact hi.closed j oj hoj hl e he hb
      · rw [getD_set_other _ (by omega)]; exact hi.tail j hj
      · intro t
        by_cases hd : o.dst = some t
        · rw [lastW_set ho hd (p := fun j => (listed.setIfInBounds i true).getD j false) (getD_set_self (by rw [hi.lsize]; exact hisz) _) (fun j oj hoj hdj hlt => by
            have := (pair i j o oj hlt ho hoj).resolve_right (fun h => h.1 t hd (by simp [names, hdj]))
            rw [getD_set_other _ (by omega)]
            exact hdesc j oj hoj this)]
          have htn : t < a.tmps.size := by rw [hi.size]; simpa [hd] using hdst
          simp only [hd, Act.put]
          simpa [htn] using hv
        · rw [lastW_congr (q := fun j => listed.getD j false) (fun j oj hoj hdj => by
            by_cases hji : i = j
            · subst hji; rw [ho] at hoj; obtain rfl := Option.some.inj hoj; exact absurd hdj hd
            · exact getD_set_other _ hji)]
          have h2 := hi.tmps t
          have same : (a.put o.dst v).tmps[t]?.getD undef = a.tmps[t]?.getD undef := by
            cases hdd : o.dst with
            | none => rfl
            | some d =>
              have hne : d ≠ t := fun e => hd (by rw [hdd, e])
              simp [Act.put, Array.getElem?_setIfInBounds_ne hne]
          rw [same]
          revert h2
          cases hlw : lastW ops (fun j => listed.getD j false) t with
          | none => exact id
          | some j =>
            have hlj := lastW_listed hlw
            refine hww j ?_ hlj _
            intro e
            subst e
            rw [hun'] at hlj
            cases hlj
    unfold wpOp
    simp only [ho]
    cases kd with
    | big =>
      obtain ⟨hgn, hgoal⟩ := hgoal
      have hnb := noBig (by simp)
      rw [if_pos (by simp [Region.wanted, hgn])]
      refine .inl (hgoal a w (hi.early hnb) hD _ fun v w' hrp hv => ?_)
      have hbig : BigIn ks (listed.setIfInBounds i true) := ⟨i, hki, getD_set_self (by rw [hi.lsize]; exact hisz) _⟩
      exact next v w' (fun j _ hl u hu => hst j (notBig j hl hnb) w w' u (.inr hrp) hu) (fun h => absurd hbig h) (fun _ => ⟨w, hi.early hnb, hrp⟩) hv
    | plain =>
      have hnb := noBig (by simp)
      have hgoal := hgoal a w (hi.early hnb) hD
      have hs := bigSet rfl (by simp)
      have nx : ∀ v w', R w w' → V i w' v → wpAny P .any ops Q fuel (listed.setIfInBounds i true) (a.put o.dst v) w' := fun v w' hr hv =>
        next v w' (fun j _ hl u hu => hst j (notBig j hl hnb) w w' u (.inl hr) hu) (fun _ => htr _ _ _ (hi.early hnb) hr) (fun h => absurd (hs.1 h) hnb) hv
      cases hgg : o.guard with
      | none =>
        rw [hgg] at hg
        cases g with
        | some _ => simp at hg
        | none =>
          rw [if_pos (by simp [Region.wanted, hgg])]
          exact .inl (hgoal _ nx)
      | some kw =>
        obtain ⟨k, want⟩ := kw
        rw [hgg] at hg
        cases g with
        | none => simp at hg
        | some tw =>
          obtain ⟨t, want'⟩ := tw
          simp only [Bool.and_eq_true, beq_iff_eq] at hg
          obtain ⟨rfl, hk⟩ := hg
          have hw := wanted_iff (a := a) hgg hk
          by_cases hv : a.tmps[t]?.getD undef = .bool want
          · rw [if_pos (hw.2 hv)]
            exact .inl (hgoal.1 hv _ nx)
          · rw [if_neg (fun h => hv (hw.1 h))]
            exact nx undef w (hrf w) (hgoal.2 hv)
    | float =>
      have hgoal := hgoal a w hD
      have hs := bigSet rfl (by simp)
      have nx : ∀ v w', w' = w → V i w' v → wpAny P .any ops Q fuel (listed.setIfInBounds i true) (a.put o.dst v) w' := fun v w' hr hv => by
        subst hr
        exact next v w' (fun j _ _ u hu => hu) (fun h => hi.early (fun hb => h (hs.2 hb))) (fun h => hi.late (hs.1 h)) hv
      cases hgg : o.guard with
      | none =>
        rw [hgg] at hg
        cases g with
        | some _ => simp at hg
        | none =>
          rw [if_pos (by simp [Region.wanted, hgg])]
          exact .inl (hgoal _ nx)
      | some kw =>
        obtain ⟨k, want⟩ := kw
        rw [hgg] at hg
        cases g with
        | none => simp at hg
        | some tw =>
          obtain ⟨t, want'⟩ := tw
          simp only [Bool.and_eq_true, beq_iff_eq] at hg
          obtain ⟨rfl, hk⟩ := hg
          have hw := wanted_iff (a := a) hgg hk
          by_cases hv : a.tmps[t]?.getD undef = .bool want
          · rw [if_pos (hw.2 hv)]
            exact .inl (hgoal.1 hv _ nx)
          · rw [if_neg (fun h => hv (hw.1 h))]
            exact nx undef w rfl (hgoal.2 hv)
end

section
variable {P : Program} {Q : Exit → Act → World → Prop} {V : Nat → World → Value → Prop} {a0 : Act} {w0 : World} {E : Act → World → Prop}
theorem wp_region_big {id : Nat} {n : Nat} (ks : List Phase) (V : Nat → World → Value → Prop) (R Rp : World → World → Prop) (reads : List (Reads × GuardT)) (fin : List (Tmp × Nat)) {l : List Oper} (tail : List Oper) (hn : a0.tmps.size = n) (hk : regionOk l.toArray reads fin n = true) (hd : l.drop reads.length = tail) (hm : P.follows .mixedOrders = true)
    (hrf : ∀ w, R w w) (htr : ∀ a b c, R a b → R b c → R a c) (hK : phaseOk (mkAnc l) ks reads.length = true) (hb : ks.contains .big = true)
    (hst : ∀ i, ks[i]? ≠ some .big → ∀ w w' v, R w w' ∨ Rp w w' → V i w v → V i w' v)
    (hops : PhHold P Q R Rp V a0 w0.drew 0 l reads ks)
    (hend : EndHold (fun w w' => ∃ w1, R w w1 ∧ Rp w1 w') V w0.drew (wpList P l.toArray Q tail) (fun _ => True) fin a0) :
    (Code.region id l.toArray true).wp P Q a0 w0 := by
  subst hn
  subst hd
  simp only [regionOk, Bool.and_eq_true] at hk
  obtain ⟨⟨⟨⟨hA, hP⟩, hR⟩, hF⟩, hT⟩ := hk
  refine wp_region_any hm ?_
  refine wpAny_invB (Rp := Rp) (ks := ks) (w0 := w0.drew) hA hP hR hT hrf htr hK hst hops ?_ _ _ _ _ (Nat.le_trans List.count_le_length (by simp)) ⟨fun _ => hrf _, ?_, rfl, rfl, by simp, ?_, ?_, ?_⟩
  · intro listed a w hl hi
    simp only [finalOk, Bool.and_eq_true, List.all_eq_true, beq_iff_eq] at hF
    have hF2 : ∀ (j : Nat) (o : Oper) (t : Tmp), l.toArray[j]? = some o → j < reads.length → o.dst = some t → t ∈ fin.map (·.1) := by
      intro j o t ho hj hd
      have := hF.2 o (by
        have h1 : (l.take reads.length)[j]? = some o := by rw [List.getElem?_take_of_lt hj]; simpa using ho
        exact List.mem_of_getElem? h1)
      rw [hd] at this
      simpa using this
    have hlast : ∀ t, lastW l.toArray (fun j => listed.getD j false) t = lastW l.toArray (fun j => decide (j < reads.length)) t := fun t =>
      lastW_congr fun j o ho _ => hl j
    have e : fin.foldl (fun a' x => a'.put (some x.1) ((fun t => a.tmps[t]?.getD undef) x.1)) a0 = a := by
      have h := foldl_put (fun t => a.tmps[t]?.getD undef) fin a0
      have hd : (fin.foldl (fun a' x => a'.put (some x.1) ((fun t => a.tmps[t]?.getD undef) x.1)) a0).defers = a.defers := h.2.1.trans hi.defers.symm
      have ht : (fin.foldl (fun a' x => a'.put (some x.1) ((fun t => a.tmps[t]?.getD undef) x.1)) a0).tmps = a.tmps := by
        refine Array.ext_getElem? fun t => ?_
        rcases Nat.lt_or_ge t a0.tmps.size with hlt | hge
        · rw [h.2.2 t hlt]
          have hat : a.tmps[t]? = some (a.tmps[t]?.getD undef) := by
            have : t < a.tmps.size := by rw [hi.size]; exact hlt
            simp [this]
          by_cases hm : t ∈ fin.map (·.1)
          · rw [if_pos hm]; exact hat.symm
          · rw [if_neg hm]
            have h2 := hi.tmps t
            have hnone : lastW l.toArray (fun j => listed.getD j false) t = none := by
              unfold lastW
              rw [List.find?_eq_none]
              intro j _
              cases ho : l.toArray[j]? with
              | none => simp
              | some o =>
                by_cases hdo : o.dst = some t
                · rcases Nat.lt_or_ge j reads.length with hj | hj
                  · exact absurd (hF2 j o t ho hj hdo) hm
                  · simp only [hi.tail j hj]; simp
                · simp [hdo]
            rw [hnone] at h2
            rw [hat, h2]
            simp [hlt]
        · rw [Array.getElem?_eq_none (by rw [h.1]; exact hge), Array.getElem?_eq_none (by rw [hi.size]; exact hge)]
      generalize fin.foldl (fun a' x => a'.put (some x.1) ((fun t => a.tmps[t]?.getD undef) x.1)) a0 = z at hd ht
      cases z; cases a; simp_all
    have hbin : BigIn ks listed := by
      have hmem := List.contains_iff_mem.1 hb
      obtain ⟨p, hp⟩ := List.mem_iff_getElem?.1 hmem
      refine ⟨p, hp, ?_⟩
      rw [hl p]
      have h1 := (List.getElem?_eq_some_iff.1 hp).1
      have h2 := hK
      simp only [phaseOk, Bool.and_eq_true, beq_iff_eq] at h2
      simp; omega
    have := endHold_at (fun t => a.tmps[t]?.getD undef) w (hi.late hbin) fin _ a0 hend trivial (fun x hx => by
      have h1 := hF.1 x hx
      have h2 := hi.tmps x.1
      rw [hlast, h1] at h2
      exact h2)
    rw [e] at this
    exact this
  · rintro ⟨p, _, hp⟩
    exfalso
    rcases Nat.lt_or_ge p l.length with h | h
    · simp [h] at hp
    · simp [h] at hp
  · intro j o ho hl
    exfalso
    have hj : j < l.length := by simpa using (Array.getElem?_eq_some_iff.1 ho).1
    simp [hj] at hl
  · intro j _
    rcases Nat.lt_or_ge j l.length with h | h
    · simp [h]
    · simp [h]
  · intro t
    have : lastW l.toArray (fun j => (Array.replicate l.toArray.size false).getD j false) t = none := by
      unfold lastW
      rw [List.find?_eq_none]
      intro j hj
      have hj : j < l.length := by simpa using hj
      simp [hj]
    rw [this]


end

/-- the predicates of all but the big one are kept by both -/
def StableB (R Rp : World → World → Prop) : List Phase → List (World → Value → Prop) → Prop
  | k :: ks, V :: Vs => (k ≠ .big → ∀ w w' v, R w w' ∨ Rp w w' → V w v → V w' v) ∧ StableB R Rp ks Vs
  | _, _ => True
theorem stableB_at {R Rp : World → World → Prop} : ∀ (ks : List Phase) (Vs : List (World → Value → Prop)), ks.length = Vs.length → StableB R Rp ks Vs → ∀ i, ks[i]? ≠ some .big → ∀ w w' v, R w w' ∨ Rp w w' → at_ Vs i w v → at_ Vs i w' v
  | [], [], _, _, _, _, _, _, _, _, _ => trivial
  | k :: ks, V :: Vs, hl, h, 0, hn, w, w', v, hr, hv => h.1 (fun e => hn (by simp [e])) w w' v hr hv
  | k :: ks, V :: Vs, hl, h, i + 1, hn, w, w', v, hr, hv => stableB_at ks Vs (by simpa using hl) h.2 i (by simpa using hn) w w' v hr hv
theorem Is.stableB {R Rp : World → World → Prop} (x : Value) : ∀ w w' v, R w w' ∨ Rp w w' → Is x w v → Is x w' v := fun _ _ _ _ h => h
theorem region_big {P : Program} {Q : Exit → Act → World → Prop} {a0 : Act} {w0 : World} {id : Nat} {n : Nat} {l : List Oper} (Rp : World → World → Prop) (ks : List Phase) (Vs : List (World → Value → Prop)) (reads : List (Reads × GuardT)) (fin : List (Tmp × Nat))
    (hn : a0.tmps.size = n) (hk : regionOk l.toArray reads fin n = true) (hK : phaseOk (mkAnc l) ks reads.length = true) (hb : ks.contains .big = true) (hm : P.follows .mixedOrders = true) (hv : ks.length = Vs.length)
    (hst : StableB Grew Rp ks Vs)
    (hops : PhHold P Q Grew Rp (at_ Vs) a0 w0.drew 0 l reads ks)
    (hend : EndHold (fun w w' => ∃ w1, Grew w w1 ∧ Rp w1 w') (at_ Vs) w0.drew (Later (wpList P l.toArray Q (dropN reads l))) (fun _ => True) fin a0) :
    (Code.region id l.toArray true).wp P Q a0 w0 :=
  wp_region_big ks (at_ Vs) Grew Rp reads fin _ hn hk (dropN_eq reads l) hm Grew.refl (fun _ _ _ => Grew.trans) hK hb (stableB_at ks Vs hv hst) hops (endHold_later _ _ _ hend)
end Go.Proofs.YtimcafohmahapaaR

-- NumC
namespace Go.Proofs.Ytimcafohmahapaa.F
open Go Go.RowKit Go.Proofs.YtimcafohmahapaaW.PrintWords Go.Proofs.YtimcafohmahapaaW.PrintLast Go.Proofs.YtimcafohmahapaaW.PrintMore Go.Proofs.YtimcafohmahapaaM Go.Proofs.YtimcafohmahapaaR
set_option linter.unusedSimpArgs false
set_option linter.unusedVariables false
theorem drawn_below {w w' : World} (h : Drawn0 w w') : Below w.heap.size w w' := h.below
theorem w64 {x : Int} (h : -9223372036854775808 ≤ x) (k : x ≤ 9223372036854775807) : wrap64 x = x := by unfold wrap64; omega
theorem str_size (l : List Int) : (strOfNums l).size = l.length := by
  unfold strOfNums; simp [ByteArray.size]
theorem str_append (l m : List Int) : strOfNums l ++ strOfNums m = strOfNums (l ++ m) := by
  unfold strOfNums
  apply ByteArray.ext
  simp
theorem bytesOf_str {l : List Int} (h : ∀ x ∈ l, 0 ≤ x ∧ x < 256) : bytesOf (strOfNums l) = l := by
  unfold bytesOf strOfNums
  simp only [List.map_map]
  refine List.ext_getElem (by simp) fun i h1 h2 => ?_
  have := h (l[i]) (List.getElem_mem _)
  simp [Function.comp]
  omega
/-- a row of bytes that can be read -/
def Row (l : List Int) : World → Value → Prop := fun w v => ∃ A c, v = .slice A l.length c ∧ l.length ≤ c ∧ Kd.C (Kd.int .u8) w A l.length l
theorem Row.stable (l : List Int) : ∀ w w' v, Grew w w' → Row l w v → Row l w' v := fun _ _ _ hg ⟨A, c, h1, h2, h3⟩ => ⟨A, c, h1, h2, Kd.C_below h3 hg⟩
theorem u64_wrap (n : Int) : IntKind.u64.wrap n = n % 18446744073709551616 := by simp [IntKind.wrap, IntKind.bits, IntKind.signed]
end Go.Proofs.Ytimcafohmahapaa.F

-- NumP
namespace Go.Proofs.Ytimcafohmahapaa.F
open Go Go.RowKit Go.Proofs.YtimcafohmahapaaW.PrintWords Go.Proofs.YtimcafohmahapaaW.PrintLast Go.Proofs.YtimcafohmahapaaW.PrintMore Go.Proofs.YtimcafohmahapaaM Go.Proofs.YtimcafohmahapaaR
set_option linter.unusedSimpArgs false
set_option linter.unusedVariables false
set_option maxRecDepth 100000
/-- bytes -/
abbrev By (l : List Int) : Prop := ∀ x ∈ l, 0 ≤ x ∧ x < 256
theorem By.drop {l : List Int} (h : By l) (m : Nat) : By (l.drop m) := fun x hx => h x (List.mem_of_mem_drop hx)
theorem By.tail {a b : List Int} (h : By (a ++ b)) : By b := fun x hx => h x (List.mem_append.2 (.inr hx))
end Go.Proofs.Ytimcafohmahapaa.F

-- F22
namespace Go.Proofs.Ytimcafohmahapaa.F
open Go.RowKit Go.Proofs.YtimcafohmahapaaW.PrintWords Go.Proofs.YtimcafohmahapaaW.PrintLast Go.Proofs.YtimcafohmahapaaW.PrintMore
attribute [local go_sem] max2_int min2_int max_two min_two max_three min_three max_four min_four   -- for this text's walks alone
set_option linter.unusedVariables false
set_option linter.unusedSimpArgs false

/-! ### delta_Check: function 22 -/
def delta_Check.l0 : Nat → List (S43) → List (S43) → Int → Int → Option (Int)
  | 0, _, _, _, _ => none
  | k + 1, x0, x9, x10, x11 => if x11 < x10 then (if 0 ≤ x11 then (if x11 < (x9.length : Int) then (if (rd_T43 x9 x11).f0 = true then (if ((rd_T43 x9 x11).f1) ≥ 0 then (if ((rd_T43 x9 x11).f2).toList = ([] : List UInt8) then (if x11 > 0 then (if ((rd_T43 x9 x11).f0 = true) then (delta_Check.l0 k x0 x9 x10 (wrap64 (x11 + 1))) else (if 0 ≤ (wrap64 (x11 - 1)) then (if (wrap64 (x11 - 1)) < (x0.length : Int) then (if ((rd_T43 x0 (wrap64 (x11 - 1))).f0 = true) then (delta_Check.l0 k x0 x9 x10 (wrap64 (x11 + 1))) else (some 1)) else (none)) else (none))) else (delta_Check.l0 k x0 x9 x10 (wrap64 (x11 + 1)))) else (if ((rd_T43 x9 x11).f0 = true) then (some 1) else (if ((rd_T43 x9 x11).f1) = 0 then (if (¬ ((rd_T43 x9 x11).f2).toList = ([] : List UInt8)) then (if x11 > 0 then (if 0 ≤ (wrap64 (x11 - 1)) then (if (wrap64 (x11 - 1)) < (x0.length : Int) then (if ((rd_T43 x0 (wrap64 (x11 - 1))).f0 = true) then (delta_Check.l0 k x0 x9 x10 (wrap64 (x11 + 1))) else (some 1)) else (none)) else (none)) else (delta_Check.l0 k x0 x9 x10 (wrap64 (x11 + 1)))) else (some 1)) else (some 1)))) else (if ((rd_T43 x9 x11).f0 = true) then (some 1) else (if ((rd_T43 x9 x11).f1) = 0 then (if (¬ ((rd_T43 x9 x11).f2).toList = ([] : List UInt8)) then (if x11 > 0 then (if 0 ≤ (wrap64 (x11 - 1)) then (if (wrap64 (x11 - 1)) < (x0.length : Int) then (if ((rd_T43 x0 (wrap64 (x11 - 1))).f0 = true) then (delta_Check.l0 k x0 x9 x10 (wrap64 (x11 + 1))) else (some 1)) else (none)) else (none)) else (delta_Check.l0 k x0 x9 x10 (wrap64 (x11 + 1)))) else (some 1)) else (some 1)))) else (if ((rd_T43 x9 x11).f0 = true) then (some 1) else (if ((rd_T43 x9 x11).f1) = 0 then (if (¬ ((rd_T43 x9 x11).f2).toList = ([] : List UInt8)) then (if x11 > 0 then (if 0 ≤ (wrap64 (x11 - 1)) then (if (wrap64 (x11 - 1)) < (x0.length : Int) then (if ((rd_T43 x0 (wrap64 (x11 - 1))).f0 = true) then (delta_Check.l0 k x0 x9 x10 (wrap64 (x11 + 1))) else (some 1)) else (none)) else (none)) else (delta_Check.l0 k x0 x9 x10 (wrap64 (x11 + 1)))) else (some 1)) else (some 1)))) else (none)) else (none)) else (some 0)
def delta_Check.f (k : Nat) (l0 : List (S43)) : Option (Int) := if (l0.length : Int) > 1024 then (some 1) else (delta_Check.l0 k l0 l0 (l0.length : Int) 0)
set_option maxHeartbeats 8000000 in
set_option maxRecDepth 100000 in
theorem delta_Check.calls (k : Nat) (A0 : Option Addr) (c0 : Nat) (l0 : List (S43)) (r : Int) (w : World) (hr0 : Kd.C k43 w A0 l0.length l0) (hc0 : l0.length ≤ c0) (h : delta_Check.f k l0 = some r) :
    Calls Try.prog 22 #[.slice A0 l0.length c0] w fun e w' => e = .returned (.int .i64 r) ∧ Below w.heap.size w w' := by
  have hu43 := Try.underlying43
  have HR0 := Aside0.mk hr0
  have HC0 := Aside0.mk hc0
  clear hr0 hc0
  have HB := Aside0.mk (Below.refl w.heap.size w)
  have H : (if (l0.length : Int) > 1024 then (some 1) else (delta_Check.l0 k l0 l0 (l0.length : Int) 0)) = some r := h
  clear h
  by_cases c2 : (l0.length : Int) > 1024
  · rw [if_pos c2] at H
    have c2b0 : decide (1024 < (l0.length : Int)) = true := decide_eq_true c2
    have c2b1 : decide (1024 < l0.length) = true := decide_eq_true (by omega)
    clear c2
    obtain rfl := Option.some.inj H
    go_enter Try.func22, Try.ntmps22
    go_wp2
    go_ret
    exact ⟨by first | rfl | (simp [errW_none, errW_some] <;> rfl) | (simp [*, errW_none, errW_some] <;> rfl), by repeat (first | (with_reducible first | exact HB.out | apply below_alloc | apply pw_below_drewN | apply below_drew1) | exact HB.out)⟩
  · rw [if_neg c2] at H
    have c2b0 : decide (1024 < (l0.length : Int)) = false := decide_eq_false c2
    have c2b1 : decide (1024 < l0.length) = false := decide_eq_false (by omega)
    clear c2
    have H' := Aside0.mk H
    clear H
    go_enter Try.func22, Try.ntmps22
    go_wp2
    go_loopg [11] k (fun kq v11 w' => ∃ (x11_1 : Int), v11 = .int .i64 x11_1 ∧ Aside0 (delta_Check.l0 kq l0 l0 (l0.length : Int) x11_1 = some r) ∧ Aside0 (kq ≤ k) ∧ Aside0 (Below w.heap.size w w'))
    case atStart => exact ⟨(0), (by first | rfl | (simp; done) | (simp [*]; done)), H', ⟨Nat.le_refl _⟩, ⟨by repeat (first | (with_reducible first | exact HB.out | apply below_alloc | apply pw_below_drewN | apply below_drew1) | exact HB.out)⟩⟩
    case round =>
      clear H'
      try clear c2
      try clear c2b0
      try clear c2b1
      try clear p2
      obtain ⟨x11_1, rfl, HA, HK1, HB⟩ := hrel
      cases gk with
      | zero => exact absurd HA.out (by simp [delta_Check.l0])
      | succ k1 =>
        have H := HA.out
        clear HA
        simp only [delta_Check.l0] at H
        by_cases c3 : x11_1 < (l0.length : Int)
        · rw [if_pos c3] at H
          have c3b0 : decide (x11_1 < (l0.length : Int)) = true := decide_eq_true c3
          clear c3
          by_cases c4 : 0 ≤ x11_1
          · rw [if_pos c4] at H
            have c4b0 : decide (0 ≤ x11_1) = true := decide_eq_true c4
            clear c4
            by_cases c5 : x11_1 < (l0.length : Int)
            · rw [if_pos c5] at H
              have c5b0 : decide (x11_1 < (l0.length : Int)) = true := decide_eq_true c5
              clear c5
              obtain ⟨bq6, hbq6⟩ : ∃ b_ : Bool, b_ = ((rd_T43 l0 x11_1).f0) := ⟨_, rfl⟩
              replace H : (if bq6 = true then (if ((rd_T43 l0 x11_1).f1) ≥ 0 then (if ((rd_T43 l0 x11_1).f2).toList = ([] : List UInt8) then (if x11_1 > 0 then (if (bq6 = true) then (delta_Check.l0 k1 l0 l0 (l0.length : Int) (wrap64 (x11_1 + 1))) else (if 0 ≤ (wrap64 (x11_1 - 1)) then (if (wrap64 (x11_1 - 1)) < (l0.length : Int) then (if ((rd_T43 l0 (wrap64 (x11_1 - 1))).f0 = true) then (delta_Check.l0 k1 l0 l0 (l0.length : Int) (wrap64 (x11_1 + 1))) else (some 1)) else (none)) else (none))) else (delta_Check.l0 k1 l0 l0 (l0.length : Int) (wrap64 (x11_1 + 1)))) else (if (bq6 = true) then (some 1) else (if ((rd_T43 l0 x11_1).f1) = 0 then (if (¬ ((rd_T43 l0 x11_1).f2).toList = ([] : List UInt8)) then (if x11_1 > 0 then (if 0 ≤ (wrap64 (x11_1 - 1)) then (if (wrap64 (x11_1 - 1)) < (l0.length : Int) then (if ((rd_T43 l0 (wrap64 (x11_1 - 1))).f0 = true) then (delta_Check.l0 k1 l0 l0 (l0.length : Int) (wrap64 (x11_1 + 1))) else (some 1)) else (none)) else (none)) else (delta_Check.l0 k1 l0 l0 (l0.length : Int) (wrap64 (x11_1 + 1)))) else (some 1)) else (some 1)))) else (if (bq6 = true) then (some 1) else (if ((rd_T43 l0 x11_1).f1) = 0 then (if (¬ ((rd_T43 l0 x11_1).f2).toList = ([] : List UInt8)) then (if x11_1 > 0 then (if 0 ≤ (wrap64 (x11_1 - 1)) then (if (wrap64 (x11_1 - 1)) < (l0.length : Int) then (if ((rd_T43 l0 (wrap64 (x11_1 - 1))).f0 = true) then (delta_Check.l0 k1 l0 l0 (l0.length : Int) (wrap64 (x11_1 + 1))) else (some 1)) else (none)) else (none)) else (delta_Check.l0 k1 l0 l0 (l0.length : Int) (wrap64 (x11_1 + 1)))) else (some 1)) else (some 1)))) else (if (bq6 = true) then (some 1) else (if ((rd_T43 l0 x11_1).f1) = 0 then (if (¬ ((rd_T43 l0 x11_1).f2).toList = ([] : List UInt8)) then (if x11_1 > 0 then (if 0 ≤ (wrap64 (x11_1 - 1)) then (if (wrap64 (x11_1 - 1)) < (l0.length : Int) then (if ((rd_T43 l0 (wrap64 (x11_1 - 1))).f0 = true) then (delta_Check.l0 k1 l0 l0 (l0.length : Int) (wrap64 (x11_1 + 1))) else (some 1)) else (none)) else (none)) else (delta_Check.l0 k1 l0 l0 (l0.length : Int) (wrap64 (x11_1 + 1)))) else (some 1)) else (some 1)))) = some r := by rw [← hbq6] at H; exact H
              have Nbq6 := Aside0.mk hbq6
              clear hbq6
              by_cases c7 : bq6 = true
              · subst c7
                have H1 : (if ((rd_T43 l0 x11_1).f1) ≥ 0 then (if ((rd_T43 l0 x11_1).f2).toList = ([] : List UInt8) then (if x11_1 > 0 then (if (true = true) then (delta_Check.l0 k1 l0 l0 (l0.length : Int) (wrap64 (x11_1 + 1))) else (if 0 ≤ (wrap64 (x11_1 - 1)) then (if (wrap64 (x11_1 - 1)) < (l0.length : Int) then (if ((rd_T43 l0 (wrap64 (x11_1 - 1))).f0 = true) then (delta_Check.l0 k1 l0 l0 (l0.length : Int) (wrap64 (x11_1 + 1))) else (some 1)) else (none)) else (none))) else (delta_Check.l0 k1 l0 l0 (l0.length : Int) (wrap64 (x11_1 + 1)))) else (if (true = true) then (some 1) else (if ((rd_T43 l0 x11_1).f1) = 0 then (if (¬ ((rd_T43 l0 x11_1).f2).toList = ([] : List UInt8)) then (if x11_1 > 0 then (if 0 ≤ (wrap64 (x11_1 - 1)) then (if (wrap64 (x11_1 - 1)) < (l0.length : Int) then (if ((rd_T43 l0 (wrap64 (x11_1 - 1))).f0 = true) then (delta_Check.l0 k1 l0 l0 (l0.length : Int) (wrap64 (x11_1 + 1))) else (some 1)) else (none)) else (none)) else (delta_Check.l0 k1 l0 l0 (l0.length : Int) (wrap64 (x11_1 + 1)))) else (some 1)) else (some 1)))) else (if (true = true) then (some 1) else (if ((rd_T43 l0 x11_1).f1) = 0 then (if (¬ ((rd_T43 l0 x11_1).f2).toList = ([] : List UInt8)) then (if x11_1 > 0 then (if 0 ≤ (wrap64 (x11_1 - 1)) then (if (wrap64 (x11_1 - 1)) < (l0.length : Int) then (if ((rd_T43 l0 (wrap64 (x11_1 - 1))).f0 = true) then (delta_Check.l0 k1 l0 l0 (l0.length : Int) (wrap64 (x11_1 + 1))) else (some 1)) else (none)) else (none)) else (delta_Check.l0 k1 l0 l0 (l0.length : Int) (wrap64 (x11_1 + 1)))) else (some 1)) else (some 1)))) = some r := by rw [if_pos rfl] at H; exact H
                clear H
                have H := H1
                clear H1
                by_cases c8 : ((rd_T43 l0 x11_1).f1) ≥ 0
                · rw [if_pos c8] at H
                  have c8b0 : decide (0 ≤ ((rd_T43 l0 x11_1).f1)) = true := decide_eq_true c8
                  clear c8
                  by_cases c9 : ((rd_T43 l0 x11_1).f2).toList = ([] : List UInt8)
                  · rw [if_pos c9] at H
                    have c9b0 : (((rd_T43 l0 x11_1).f2).toList == ([] : List UInt8)) = true := beq_iff_eq.mpr c9
                    have c9b1 : (((rd_T43 l0 x11_1).f2).toList != ([] : List UInt8)) = false := bne_eq_false_iff_eq.mpr c9
                    clear c9
                    by_cases c10 : x11_1 > 0
                    · rw [if_pos c10] at H
                      have c10b0 : decide (0 < x11_1) = true := decide_eq_true c10
                      clear c10
                      by_cases c11 : (true = true)
                      · clear c11
                        have H1 : (delta_Check.l0 k1 l0 l0 (l0.length : Int) (wrap64 (x11_1 + 1))) = some r := by rw [if_pos rfl] at H; exact H
                        clear H
                        have H := H1
                        clear H1
                        have H' := Aside0.mk H
                        clear H
                        have p153 : 0 ≤ (x11_1 : Int) := of_decide_eq_true (by first | (with_reducible assumption) | assumption)
                        have q153 : x11_1 < (l0.length : Int) := of_decide_eq_true (by first | (with_reducible assumption) | assumption)
                        obtain ⟨ad153, e153, hx153_0, hx153_1, hx153_2⟩ := at_T43 HR0.out x11_1 p153 q153
                        (try rw [← Nbq6.out] at hx153_0)
                        cases e153
                        replace hx153_0 := (HB.out.cell (World.block_lt_of_cell? w _ hx153_0)).trans hx153_0
                        replace hx153_1 := (HB.out.cell (World.block_lt_of_cell? w _ hx153_1)).trans hx153_1
                        replace hx153_2 := (HB.out.cell (World.block_lt_of_cell? w _ hx153_2)).trans hx153_2
                        replace p153 := eq_true p153
                        replace q153 := eq_true q153
                        go_wp2_with (first | ((with_reducible refine gate_dst (N := 4) rfl ?_); refine box_event ?hg (N := 4) ?hd (cs := #[.bool false, .int .i64 0, .string (⟨#[]⟩ : ByteArray)]) (t := 43) ?hr ?_; (case hd => rfl); (case hg => rfl); (case hr => first | (go_simp; done) | (go_simp; rfl)); intro gb154 hg w12 hbox hb; have n0_ := Aside0.mk (below_step (by repeat (first | (with_reducible first | exact HB.out | apply below_alloc | apply pw_below_drewN | apply below_drew1) | exact HB.out)) hb); have n1_ := Aside0.mk (hbox); have n2_ := Aside0.mk ((by rw [hg]; exact (below_size (by repeat (first | (with_reducible first | exact HB.out | apply below_alloc | apply pw_below_drewN | apply below_drew1) | exact HB.out))) : w.heap.size ≤ gb154)); have n3_ := Aside0.mk ((by rw [hg]; exact (below_size (by repeat (first | (with_reducible first | exact HB.out | apply below_alloc | apply pw_below_drewN | apply below_drew1) | exact HB.out))) : w.heap.size ≤ gb154)); clear HB; have HB := n0_; have BK154 := n1_; have GW154 := n2_; have GE154 := n3_; clear n0_ n1_ n2_ n3_; clear hb hbox hg; have hcz13_0 : w12.cell? ⟨gb154, 0, none⟩ = some (.bool false) := (blk_cell BK154.out 0).trans rfl; have hcz13_1 : w12.cell? ⟨gb154, 1, none⟩ = some (.int .i64 0) := (blk_cell BK154.out 1).trans rfl; have hcz13_2 : w12.cell? ⟨gb154, 2, none⟩ = some (.string (⟨#[]⟩ : ByteArray)) := (blk_cell BK154.out 2).trans rfl; have hfz13_0 := blk_frozen BK154.out 0; have hfz13_1 := blk_frozen BK154.out 1; have hfz13_2 := blk_frozen BK154.out 2))
                        go_roundg k1
                        case measure => have := HK1.out; omega
                        case rel => exact ⟨(wrap64 (x11_1 + 1)), (by first | rfl | (simp; done) | (simp [*]; done)), H', ⟨by have := HK1.out; omega⟩, ⟨by repeat (first | (with_reducible first | exact HB.out | apply below_alloc | apply pw_below_drewN | apply below_drew1 | refine below_set ?_ GE154.out) | exact HB.out)⟩⟩
                      · exact absurd rfl c11
                    · rw [if_neg c10] at H
                      have c10b0 : decide (0 < x11_1) = false := decide_eq_false c10
                      clear c10
                      have H' := Aside0.mk H
                      clear H
                      have p153 : 0 ≤ (x11_1 : Int) := of_decide_eq_true (by first | (with_reducible assumption) | assumption)
                      have q153 : x11_1 < (l0.length : Int) := of_decide_eq_true (by first | (with_reducible assumption) | assumption)
                      obtain ⟨ad153, e153, hx153_0, hx153_1, hx153_2⟩ := at_T43 HR0.out x11_1 p153 q153
                      (try rw [← Nbq6.out] at hx153_0)
                      cases e153
                      replace hx153_0 := (HB.out.cell (World.block_lt_of_cell? w _ hx153_0)).trans hx153_0
                      replace hx153_1 := (HB.out.cell (World.block_lt_of_cell? w _ hx153_1)).trans hx153_1
                      replace hx153_2 := (HB.out.cell (World.block_lt_of_cell? w _ hx153_2)).trans hx153_2
                      replace p153 := eq_true p153
                      replace q153 := eq_true q153
                      go_wp2_with (first | ((with_reducible refine gate_dst (N := 4) rfl ?_); refine box_event ?hg (N := 4) ?hd (cs := #[.bool false, .int .i64 0, .string (⟨#[]⟩ : ByteArray)]) (t := 43) ?hr ?_; (case hd => rfl); (case hg => rfl); (case hr => first | (go_simp; done) | (go_simp; rfl)); intro gb154 hg w22 hbox hb; have n0_ := Aside0.mk (below_step (by repeat (first | (with_reducible first | exact HB.out | apply below_alloc | apply pw_below_drewN | apply below_drew1) | exact HB.out)) hb); have n1_ := Aside0.mk (hbox); have n2_ := Aside0.mk ((by rw [hg]; exact (below_size (by repeat (first | (with_reducible first | exact HB.out | apply below_alloc | apply pw_below_drewN | apply below_drew1) | exact HB.out))) : w.heap.size ≤ gb154)); have n3_ := Aside0.mk ((by rw [hg]; exact (below_size (by repeat (first | (with_reducible first | exact HB.out | apply below_alloc | apply pw_below_drewN | apply below_drew1) | exact HB.out))) : w.heap.size ≤ gb154)); clear HB; have HB := n0_; have BK154 := n1_; have GW154 := n2_; have GE154 := n3_; clear n0_ n1_ n2_ n3_; clear hb hbox hg; have hcz23_0 : w22.cell? ⟨gb154, 0, none⟩ = some (.bool false) := (blk_cell BK154.out 0).trans rfl; have hcz23_1 : w22.cell? ⟨gb154, 1, none⟩ = some (.int .i64 0) := (blk_cell BK154.out 1).trans rfl; have hcz23_2 : w22.cell? ⟨gb154, 2, none⟩ = some (.string (⟨#[]⟩ : ByteArray)) := (blk_cell BK154.out 2).trans rfl; have hfz23_0 := blk_frozen BK154.out 0; have hfz23_1 := blk_frozen BK154.out 1; have hfz23_2 := blk_frozen BK154.out 2))
                      go_roundg k1
                      case measure => have := HK1.out; omega
                      case rel => exact ⟨(wrap64 (x11_1 + 1)), (by first | rfl | (simp; done) | (simp [*]; done)), H', ⟨by have := HK1.out; omega⟩, ⟨by repeat (first | (with_reducible first | exact HB.out | apply below_alloc | apply pw_below_drewN | apply below_drew1 | refine below_set ?_ GE154.out) | exact HB.out)⟩⟩
                  · rw [if_neg c9] at H
                    have c9b0 : (((rd_T43 l0 x11_1).f2).toList == ([] : List UInt8)) = false := beq_eq_false_iff_ne.mpr c9
                    have c9b1 : (((rd_T43 l0 x11_1).f2).toList != ([] : List UInt8)) = true := bne_iff_ne.mpr c9
                    by_cases c24 : (true = true)
                    · clear c24
                      have H1 : (some 1) = some r := by rw [if_pos rfl] at H; exact H
                      clear H
                      have H := H1
                      clear H1
                      obtain rfl := Option.some.inj H
                      have p153 : 0 ≤ (x11_1 : Int) := of_decide_eq_true (by first | (with_reducible assumption) | assumption)
                      have q153 : x11_1 < (l0.length : Int) := of_decide_eq_true (by first | (with_reducible assumption) | assumption)
                      obtain ⟨ad153, e153, hx153_0, hx153_1, hx153_2⟩ := at_T43 HR0.out x11_1 p153 q153
                      (try rw [← Nbq6.out] at hx153_0)
                      cases e153
                      replace hx153_0 := (HB.out.cell (World.block_lt_of_cell? w _ hx153_0)).trans hx153_0
                      replace hx153_1 := (HB.out.cell (World.block_lt_of_cell? w _ hx153_1)).trans hx153_1
                      replace hx153_2 := (HB.out.cell (World.block_lt_of_cell? w _ hx153_2)).trans hx153_2
                      replace p153 := eq_true p153
                      replace q153 := eq_true q153
                      go_wp2_with (first | ((with_reducible refine gate_dst (N := 4) rfl ?_); refine box_event ?hg (N := 4) ?hd (cs := #[.bool false, .int .i64 0, .string (⟨#[]⟩ : ByteArray)]) (t := 43) ?hr ?_; (case hd => rfl); (case hg => rfl); (case hr => first | (go_simp; done) | (go_simp; rfl)); intro gb154 hg w25 hbox hb; have n0_ := Aside0.mk (below_step (by repeat (first | (with_reducible first | exact HB.out | apply below_alloc | apply pw_below_drewN | apply below_drew1) | exact HB.out)) hb); have n1_ := Aside0.mk (hbox); have n2_ := Aside0.mk ((by rw [hg]; exact (below_size (by repeat (first | (with_reducible first | exact HB.out | apply below_alloc | apply pw_below_drewN | apply below_drew1) | exact HB.out))) : w.heap.size ≤ gb154)); have n3_ := Aside0.mk ((by rw [hg]; exact (below_size (by repeat (first | (with_reducible first | exact HB.out | apply below_alloc | apply pw_below_drewN | apply below_drew1) | exact HB.out))) : w.heap.size ≤ gb154)); clear HB; have HB := n0_; have BK154 := n1_; have GW154 := n2_; have GE154 := n3_; clear n0_ n1_ n2_ n3_; clear hb hbox hg; have hcz26_0 : w25.cell? ⟨gb154, 0, none⟩ = some (.bool false) := (blk_cell BK154.out 0).trans rfl; have hcz26_1 : w25.cell? ⟨gb154, 1, none⟩ = some (.int .i64 0) := (blk_cell BK154.out 1).trans rfl; have hcz26_2 : w25.cell? ⟨gb154, 2, none⟩ = some (.string (⟨#[]⟩ : ByteArray)) := (blk_cell BK154.out 2).trans rfl; have hfz26_0 := blk_frozen BK154.out 0; have hfz26_1 := blk_frozen BK154.out 1; have hfz26_2 := blk_frozen BK154.out 2))
                      go_ret
                      exact ⟨by first | rfl | (simp [errW_none, errW_some] <;> rfl) | (simp [*, errW_none, errW_some] <;> rfl), by repeat (first | (with_reducible first | exact HB.out | apply below_alloc | apply pw_below_drewN | apply below_drew1 | refine below_set ?_ GE154.out) | exact HB.out)⟩
                    · exact absurd rfl c24
                · rw [if_neg c8] at H
                  have c8b0 : decide (0 ≤ ((rd_T43 l0 x11_1).f1)) = false := decide_eq_false c8
                  clear c8
                  by_cases c44 : (true = true)
                  · clear c44
                    have H1 : (some 1) = some r := by rw [if_pos rfl] at H; exact H
                    clear H
                    have H := H1
                    clear H1
                    obtain rfl := Option.some.inj H
                    have p153 : 0 ≤ (x11_1 : Int) := of_decide_eq_true (by first | (with_reducible assumption) | assumption)
                    have q153 : x11_1 < (l0.length : Int) := of_decide_eq_true (by first | (with_reducible assumption) | assumption)
                    obtain ⟨ad153, e153, hx153_0, hx153_1, hx153_2⟩ := at_T43 HR0.out x11_1 p153 q153
                    (try rw [← Nbq6.out] at hx153_0)
                    cases e153
                    replace hx153_0 := (HB.out.cell (World.block_lt_of_cell? w _ hx153_0)).trans hx153_0
                    replace hx153_1 := (HB.out.cell (World.block_lt_of_cell? w _ hx153_1)).trans hx153_1
                    replace hx153_2 := (HB.out.cell (World.block_lt_of_cell? w _ hx153_2)).trans hx153_2
                    replace p153 := eq_true p153
                    replace q153 := eq_true q153
                    go_wp2_with (first | ((with_reducible refine gate_dst (N := 4) rfl ?_); refine box_event ?hg (N := 4) ?hd (cs := #[.bool false, .int .i64 0, .string (⟨#[]⟩ : ByteArray)]) (t := 43) ?hr ?_; (case hd => rfl); (case hg => rfl); (case hr => first | (go_simp; done) | (go_simp; rfl)); intro gb154 hg w45 hbox hb; have n0_ := Aside0.mk (below_step (by repeat (first | (with_reducible first | exact HB.out | apply below_alloc | apply pw_below_drewN | apply below_drew1) | exact HB.out)) hb); have n1_ := Aside0.mk (hbox); have n2_ := Aside0.mk ((by rw [hg]; exact (below_size (by repeat (first | (with_reducible first | exact HB.out | apply below_alloc | apply pw_below_drewN | apply below_drew1) | exact HB.out))) : w.heap.size ≤ gb154)); have n3_ := Aside0.mk ((by rw [hg]; exact (below_size (by repeat (first | (with_reducible first | exact HB.out | apply below_alloc | apply pw_below_drewN | apply below_drew1) | exact HB.out))) : w.heap.size ≤ gb154)); clear HB; have HB := n0_; have BK154 := n1_; have GW154 := n2_; have GE154 := n3_; clear n0_ n1_ n2_ n3_; clear hb hbox hg; have hcz46_0 : w45.cell? ⟨gb154, 0, none⟩ = some (.bool false) := (blk_cell BK154.out 0).trans rfl; have hcz46_1 : w45.cell? ⟨gb154, 1, none⟩ = some (.int .i64 0) := (blk_cell BK154.out 1).trans rfl; have hcz46_2 : w45.cell? ⟨gb154, 2, none⟩ = some (.string (⟨#[]⟩ : ByteArray)) := (blk_cell BK154.out 2).trans rfl; have hfz46_0 := blk_frozen BK154.out 0; have hfz46_1 := blk_frozen BK154.out 1; have hfz46_2 := blk_frozen BK154.out 2))
                    go_ret
                    exact ⟨by first | rfl | (simp [errW_none, errW_some] <;> rfl) | (simp [*, errW_none, errW_some] <;> rfl), by repeat (first | (with_reducible first | exact HB.out | apply below_alloc | apply pw_below_drewN | apply below_drew1 | refine below_set ?_ GE154.out) | exact HB.out)⟩
                  · exact absurd rfl c44
              · replace c7 := Bool.eq_false_iff.mpr c7
                subst c7
                have H1 : (if (false = true) then (some 1) else (if ((rd_T43 l0 x11_1).f1) = 0 then (if (¬ ((rd_T43 l0 x11_1).f2).toList = ([] : List UInt8)) then (if x11_1 > 0 then (if 0 ≤ (wrap64 (x11_1 - 1)) then (if (wrap64 (x11_1 - 1)) < (l0.length : Int) then (if ((rd_T43 l0 (wrap64 (x11_1 - 1))).f0 = true) then (delta_Check.l0 k1 l0 l0 (l0.length : Int) (wrap64 (x11_1 + 1))) else (some 1)) else (none)) else (none)) else (delta_Check.l0 k1 l0 l0 (l0.length : Int) (wrap64 (x11_1 + 1)))) else (some 1)) else (some 1))) = some r := by rw [if_neg (show ¬ (false = true) by decide)] at H; exact H
                clear H
                have H := H1
                clear H1
                by_cases c64 : (false = true)
                · exact absurd c64 (by decide)
                · skip
                  clear c64
                  have H1 : (if ((rd_T43 l0 x11_1).f1) = 0 then (if (¬ ((rd_T43 l0 x11_1).f2).toList = ([] : List UInt8)) then (if x11_1 > 0 then (if 0 ≤ (wrap64 (x11_1 - 1)) then (if (wrap64 (x11_1 - 1)) < (l0.length : Int) then (if ((rd_T43 l0 (wrap64 (x11_1 - 1))).f0 = true) then (delta_Check.l0 k1 l0 l0 (l0.length : Int) (wrap64 (x11_1 + 1))) else (some 1)) else (none)) else (none)) else (delta_Check.l0 k1 l0 l0 (l0.length : Int) (wrap64 (x11_1 + 1)))) else (some 1)) else (some 1)) = some r := by rw [if_neg (show ¬ (false = true) by decide)] at H; exact H
                  clear H
                  have H := H1
                  clear H1
                  by_cases c67 : ((rd_T43 l0 x11_1).f1) = 0
                  · rw [if_pos c67] at H
                    have c67b0 : (((rd_T43 l0 x11_1).f1) == 0) = true := beq_iff_eq.mpr c67
                    have c67b1 : (((rd_T43 l0 x11_1).f1) != 0) = false := bne_eq_false_iff_eq.mpr c67
                    clear c67
                    by_cases c68 : (¬ ((rd_T43 l0 x11_1).f2).toList = ([] : List UInt8))
                    · rw [if_pos c68] at H
                      have c68b0 : (((rd_T43 l0 x11_1).f2).toList == ([] : List UInt8)) = false := beq_eq_false_iff_ne.mpr c68
                      have c68b1 : (((rd_T43 l0 x11_1).f2).toList != ([] : List UInt8)) = true := bne_iff_ne.mpr c68
                      clear c68
                      by_cases c69 : x11_1 > 0
                      · rw [if_pos c69] at H
                        have c69b0 : decide (0 < x11_1) = true := decide_eq_true c69
                        clear c69
                        obtain ⟨ji70, hji70⟩ : ∃ j_ : Int, (wrap64 (x11_1 - 1)) = j_ := ⟨_, rfl⟩
                        replace H : (if 0 ≤ (ji70) then (if (ji70) < (l0.length : Int) then (if ((rd_T43 l0 (ji70)).f0 = true) then (delta_Check.l0 k1 l0 l0 (l0.length : Int) (wrap64 (x11_1 + 1))) else (some 1)) else (none)) else (none)) = some r := by first | (rw [hji70] at H; exact H) | (simp only [hji70] at H ⊢; exact H)
                        have hji70w : (IntKind.i64.wrap (x11_1 - 1)) = ji70 := (i64_w _).trans hji70
                        by_cases c71 : 0 ≤ (ji70)
                        · rw [if_pos c71] at H
                          have c71b0 : decide (0 ≤ (ji70)) = true := decide_eq_true c71
                          clear c71
                          by_cases c72 : (ji70) < (l0.length : Int)
                          · rw [if_pos c72] at H
                            have c72b0 : decide ((ji70) < (l0.length : Int)) = true := decide_eq_true c72
                            clear c72
                            obtain ⟨bq73, hbq73⟩ : ∃ b_ : Bool, b_ = ((rd_T43 l0 (ji70)).f0) := ⟨_, rfl⟩
                            replace H : (if (bq73 = true) then (delta_Check.l0 k1 l0 l0 (l0.length : Int) (wrap64 (x11_1 + 1))) else (some 1)) = some r := by rw [← hbq73] at H; exact H
                            have Nbq73 := Aside0.mk hbq73
                            clear hbq73
                            by_cases c74 : (bq73 = true)
                            · subst c74
                              have H1 : (delta_Check.l0 k1 l0 l0 (l0.length : Int) (wrap64 (x11_1 + 1))) = some r := by rw [if_pos rfl] at H; exact H
                              clear H
                              have H := H1
                              clear H1
                              have H' := Aside0.mk H
                              clear H
                              have p153 : 0 ≤ (x11_1 : Int) := of_decide_eq_true (by first | (with_reducible assumption) | assumption)
                              have q153 : x11_1 < (l0.length : Int) := of_decide_eq_true (by first | (with_reducible assumption) | assumption)
                              obtain ⟨ad153, e153, hx153_0, hx153_1, hx153_2⟩ := at_T43 HR0.out x11_1 p153 q153
                              (try rw [← Nbq6.out] at hx153_0)
                              (try rw [← Nbq73.out] at hx153_0)
                              cases e153
                              replace hx153_0 := (HB.out.cell (World.block_lt_of_cell? w _ hx153_0)).trans hx153_0
                              replace hx153_1 := (HB.out.cell (World.block_lt_of_cell? w _ hx153_1)).trans hx153_1
                              replace hx153_2 := (HB.out.cell (World.block_lt_of_cell? w _ hx153_2)).trans hx153_2
                              replace p153 := eq_true p153
                              replace q153 := eq_true q153
                              go_wp2_with (first | ((with_reducible refine gate_dst (N := 4) rfl ?_); refine box_event ?hg (N := 4) ?hd (cs := #[.bool false, .int .i64 0, .string (⟨#[]⟩ : ByteArray)]) (t := 43) ?hr ?_; (case hd => rfl); (case hg => rfl); (case hr => first | (go_simp; done) | (go_simp; rfl)); intro gb154 hg w75 hbox hb; have n0_ := Aside0.mk (below_step (by repeat (first | (with_reducible first | exact HB.out | apply below_alloc | apply pw_below_drewN | apply below_drew1) | exact HB.out)) hb); have n1_ := Aside0.mk (hbox); have n2_ := Aside0.mk ((by rw [hg]; exact (below_size (by repeat (first | (with_reducible first | exact HB.out | apply below_alloc | apply pw_below_drewN | apply below_drew1) | exact HB.out))) : w.heap.size ≤ gb154)); have n3_ := Aside0.mk ((by rw [hg]; exact (below_size (by repeat (first | (with_reducible first | exact HB.out | apply below_alloc | apply pw_below_drewN | apply below_drew1) | exact HB.out))) : w.heap.size ≤ gb154)); clear HB; have HB := n0_; have BK154 := n1_; have GW154 := n2_; have GE154 := n3_; clear n0_ n1_ n2_ n3_; clear hb hbox hg; have hcz76_0 : w75.cell? ⟨gb154, 0, none⟩ = some (.bool false) := (blk_cell BK154.out 0).trans rfl; have hcz76_1 : w75.cell? ⟨gb154, 1, none⟩ = some (.int .i64 0) := (blk_cell BK154.out 1).trans rfl; have hcz76_2 : w75.cell? ⟨gb154, 2, none⟩ = some (.string (⟨#[]⟩ : ByteArray)) := (blk_cell BK154.out 2).trans rfl; have hfz76_0 := blk_frozen BK154.out 0; have hfz76_1 := blk_frozen BK154.out 1; have hfz76_2 := blk_frozen BK154.out 2; have p158 : 0 ≤ ((ji70) : Int) := of_decide_eq_true (by first | (with_reducible assumption) | assumption); have q158 : (ji70) < (l0.length : Int) := of_decide_eq_true (by first | (with_reducible assumption) | assumption); obtain ⟨ad158, e158, hx158_0, hx158_1, hx158_2⟩ := at_T43 HR0.out (ji70) p158 q158; (try rw [← Nbq6.out] at hx158_0); (try rw [← Nbq73.out] at hx158_0); obtain rfl : ad153 = ad158 := (by injection e158); have hn158_0 : ad153.block ≠ gb154 := Nat.ne_of_lt (Nat.lt_of_lt_of_le (by have := World.block_lt_of_cell? _ _ hx158_0; first | rwa [add_block] at this | exact this) GW154.out); have hn158_1 : ad153.block ≠ gb154 := Nat.ne_of_lt (Nat.lt_of_lt_of_le (by have := World.block_lt_of_cell? _ _ hx158_0; first | rwa [add_block] at this | exact this) GW154.out); have hn158_2 : ad153.block ≠ gb154 := Nat.ne_of_lt (Nat.lt_of_lt_of_le (by have := World.block_lt_of_cell? _ _ hx158_0; first | rwa [add_block] at this | exact this) GW154.out); replace hx158_0 := (HB.out.cell (World.block_lt_of_cell? w _ hx158_0)).trans hx158_0; replace hx158_1 := (HB.out.cell (World.block_lt_of_cell? w _ hx158_1)).trans hx158_1; replace hx158_2 := (HB.out.cell (World.block_lt_of_cell? w _ hx158_2)).trans hx158_2; replace hx158_0 := (cell_far (p := ⟨gb154, 0, none⟩) (by first | (rw [add_block]; exact hn158_0) | (show (Addr.add _ _).block ≠ _; rw [add_block]; exact hn158_0) | exact hn158_0) (.bool false)).trans hx158_0; replace hx158_1 := (cell_far (p := ⟨gb154, 0, none⟩) (by first | (rw [add_block]; exact hn158_0) | (show (Addr.add _ _).block ≠ _; rw [add_block]; exact hn158_0) | exact hn158_0) (.bool false)).trans hx158_1; replace hx158_2 := (cell_far (p := ⟨gb154, 0, none⟩) (by first | (rw [add_block]; exact hn158_0) | (show (Addr.add _ _).block ≠ _; rw [add_block]; exact hn158_0) | exact hn158_0) (.bool false)).trans hx158_2; replace hx158_0 := (cell_far (p := ⟨gb154, 1, none⟩) (by first | (rw [add_block]; exact hn158_1) | (show (Addr.add _ _).block ≠ _; rw [add_block]; exact hn158_1) | exact hn158_1) (.int .i64 ((rd_T43 l0 x11_1).f1))).trans hx158_0; replace hx158_1 := (cell_far (p := ⟨gb154, 1, none⟩) (by first | (rw [add_block]; exact hn158_1) | (show (Addr.add _ _).block ≠ _; rw [add_block]; exact hn158_1) | exact hn158_1) (.int .i64 ((rd_T43 l0 x11_1).f1))).trans hx158_1; replace hx158_2 := (cell_far (p := ⟨gb154, 1, none⟩) (by first | (rw [add_block]; exact hn158_1) | (show (Addr.add _ _).block ≠ _; rw [add_block]; exact hn158_1) | exact hn158_1) (.int .i64 ((rd_T43 l0 x11_1).f1))).trans hx158_2; replace hx158_0 := (cell_far (p := ⟨gb154, 2, none⟩) (by first | (rw [add_block]; exact hn158_2) | (show (Addr.add _ _).block ≠ _; rw [add_block]; exact hn158_2) | exact hn158_2) (.string ((rd_T43 l0 x11_1).f2))).trans hx158_0; replace hx158_1 := (cell_far (p := ⟨gb154, 2, none⟩) (by first | (rw [add_block]; exact hn158_2) | (show (Addr.add _ _).block ≠ _; rw [add_block]; exact hn158_2) | exact hn158_2) (.string ((rd_T43 l0 x11_1).f2))).trans hx158_1; replace hx158_2 := (cell_far (p := ⟨gb154, 2, none⟩) (by first | (rw [add_block]; exact hn158_2) | (show (Addr.add _ _).block ≠ _; rw [add_block]; exact hn158_2) | exact hn158_2) (.string ((rd_T43 l0 x11_1).f2))).trans hx158_2; clear hn158_0; clear hn158_1; clear hn158_2; replace p158 := eq_true p158; replace q158 := eq_true q158))
                              go_roundg k1
                              case measure => have := HK1.out; omega
                              case rel => exact ⟨(wrap64 (x11_1 + 1)), (by first | rfl | (simp; done) | (simp [*]; done)), H', ⟨by have := HK1.out; omega⟩, ⟨by repeat (first | (with_reducible first | exact HB.out | apply below_alloc | apply pw_below_drewN | apply below_drew1 | refine below_set ?_ GE154.out) | exact HB.out)⟩⟩
                            · replace c74 := Bool.eq_false_iff.mpr c74
                              subst c74
                              have H1 : (some 1) = some r := by rw [if_neg (show ¬ (false = true) by decide)] at H; exact H
                              clear H
                              have H := H1
                              clear H1
                              obtain rfl := Option.some.inj H
                              have p153 : 0 ≤ (x11_1 : Int) := of_decide_eq_true (by first | (with_reducible assumption) | assumption)
                              have q153 : x11_1 < (l0.length : Int) := of_decide_eq_true (by first | (with_reducible assumption) | assumption)
                              obtain ⟨ad153, e153, hx153_0, hx153_1, hx153_2⟩ := at_T43 HR0.out x11_1 p153 q153
                              (try rw [← Nbq6.out] at hx153_0)
                              (try rw [← Nbq73.out] at hx153_0)
                              cases e153
                              replace hx153_0 := (HB.out.cell (World.block_lt_of_cell? w _ hx153_0)).trans hx153_0
                              replace hx153_1 := (HB.out.cell (World.block_lt_of_cell? w _ hx153_1)).trans hx153_1
                              replace hx153_2 := (HB.out.cell (World.block_lt_of_cell? w _ hx153_2)).trans hx153_2
                              replace p153 := eq_true p153
                              replace q153 := eq_true q153
                              go_wp2_with (first | ((with_reducible refine gate_dst (N := 4) rfl ?_); refine box_event ?hg (N := 4) ?hd (cs := #[.bool false, .int .i64 0, .string (⟨#[]⟩ : ByteArray)]) (t := 43) ?hr ?_; (case hd => rfl); (case hg => rfl); (case hr => first | (go_simp; done) | (go_simp; rfl)); intro gb154 hg w77 hbox hb; have n0_ := Aside0.mk (below_step (by repeat (first | (with_reducible first | exact HB.out | apply below_alloc | apply pw_below_drewN | apply below_drew1) | exact HB.out)) hb); have n1_ := Aside0.mk (hbox); have n2_ := Aside0.mk ((by rw [hg]; exact (below_size (by repeat (first | (with_reducible first | exact HB.out | apply below_alloc | apply pw_below_drewN | apply below_drew1) | exact HB.out))) : w.heap.size ≤ gb154)); have n3_ := Aside0.mk ((by rw [hg]; exact (below_size (by repeat (first | (with_reducible first | exact HB.out | apply below_alloc | apply pw_below_drewN | apply below_drew1) | exact HB.out))) : w.heap.size ≤ gb154)); clear HB; have HB := n0_; have BK154 := n1_; have GW154 := n2_; have GE154 := n3_; clear n0_ n1_ n2_ n3_; clear hb hbox hg; have hcz78_0 : w77.cell? ⟨gb154, 0, none⟩ = some (.bool false) := (blk_cell BK154.out 0).trans rfl; have hcz78_1 : w77.cell? ⟨gb154, 1, none⟩ = some (.int .i64 0) := (blk_cell BK154.out 1).trans rfl; have hcz78_2 : w77.cell? ⟨gb154, 2, none⟩ = some (.string (⟨#[]⟩ : ByteArray)) := (blk_cell BK154.out 2).trans rfl; have hfz78_0 := blk_frozen BK154.out 0; have hfz78_1 := blk_frozen BK154.out 1; have hfz78_2 := blk_frozen BK154.out 2; have p158 : 0 ≤ ((ji70) : Int) := of_decide_eq_true (by first | (with_reducible assumption) | assumption); have q158 : (ji70) < (l0.length : Int) := of_decide_eq_true (by first | (with_reducible assumption) | assumption); obtain ⟨ad158, e158, hx158_0, hx158_1, hx158_2⟩ := at_T43 HR0.out (ji70) p158 q158; (try rw [← Nbq6.out] at hx158_0); (try rw [← Nbq73.out] at hx158_0); obtain rfl : ad153 = ad158 := (by injection e158); have hn158_0 : ad153.block ≠ gb154 := Nat.ne_of_lt (Nat.lt_of_lt_of_le (by have := World.block_lt_of_cell? _ _ hx158_0; first | rwa [add_block] at this | exact this) GW154.out); have hn158_1 : ad153.block ≠ gb154 := Nat.ne_of_lt (Nat.lt_of_lt_of_le (by have := World.block_lt_of_cell? _ _ hx158_0; first | rwa [add_block] at this | exact this) GW154.out); have hn158_2 : ad153.block ≠ gb154 := Nat.ne_of_lt (Nat.lt_of_lt_of_le (by have := World.block_lt_of_cell? _ _ hx158_0; first | rwa [add_block] at this | exact this) GW154.out); replace hx158_0 := (HB.out.cell (World.block_lt_of_cell? w _ hx158_0)).trans hx158_0; replace hx158_1 := (HB.out.cell (World.block_lt_of_cell? w _ hx158_1)).trans hx158_1; replace hx158_2 := (HB.out.cell (World.block_lt_of_cell? w _ hx158_2)).trans hx158_2; replace hx158_0 := (cell_far (p := ⟨gb154, 0, none⟩) (by first | (rw [add_block]; exact hn158_0) | (show (Addr.add _ _).block ≠ _; rw [add_block]; exact hn158_0) | exact hn158_0) (.bool false)).trans hx158_0; replace hx158_1 := (cell_far (p := ⟨gb154, 0, none⟩) (by first | (rw [add_block]; exact hn158_0) | (show (Addr.add _ _).block ≠ _; rw [add_block]; exact hn158_0) | exact hn158_0) (.bool false)).trans hx158_1; replace hx158_2 := (cell_far (p := ⟨gb154, 0, none⟩) (by first | (rw [add_block]; exact hn158_0) | (show (Addr.add _ _).block ≠ _; rw [add_block]; exact hn158_0) | exact hn158_0) (.bool false)).trans hx158_2; replace hx158_0 := (cell_far (p := ⟨gb154, 1, none⟩) (by first | (rw [add_block]; exact hn158_1) | (show (Addr.add _ _).block ≠ _; rw [add_block]; exact hn158_1) | exact hn158_1) (.int .i64 ((rd_T43 l0 x11_1).f1))).trans hx158_0; replace hx158_1 := (cell_far (p := ⟨gb154, 1, none⟩) (by first | (rw [add_block]; exact hn158_1) | (show (Addr.add _ _).block ≠ _; rw [add_block]; exact hn158_1) | exact hn158_1) (.int .i64 ((rd_T43 l0 x11_1).f1))).trans hx158_1; replace hx158_2 := (cell_far (p := ⟨gb154, 1, none⟩) (by first | (rw [add_block]; exact hn158_1) | (show (Addr.add _ _).block ≠ _; rw [add_block]; exact hn158_1) | exact hn158_1) (.int .i64 ((rd_T43 l0 x11_1).f1))).trans hx158_2; replace hx158_0 := (cell_far (p := ⟨gb154, 2, none⟩) (by first | (rw [add_block]; exact hn158_2) | (show (Addr.add _ _).block ≠ _; rw [add_block]; exact hn158_2) | exact hn158_2) (.string ((rd_T43 l0 x11_1).f2))).trans hx158_0; replace hx158_1 := (cell_far (p := ⟨gb154, 2, none⟩) (by first | (rw [add_block]; exact hn158_2) | (show (Addr.add _ _).block ≠ _; rw [add_block]; exact hn158_2) | exact hn158_2) (.string ((rd_T43 l0 x11_1).f2))).trans hx158_1; replace hx158_2 := (cell_far (p := ⟨gb154, 2, none⟩) (by first | (rw [add_block]; exact hn158_2) | (show (Addr.add _ _).block ≠ _; rw [add_block]; exact hn158_2) | exact hn158_2) (.string ((rd_T43 l0 x11_1).f2))).trans hx158_2; clear hn158_0; clear hn158_1; clear hn158_2; replace p158 := eq_true p158; replace q158 := eq_true q158))
                              go_ret
                              exact ⟨by first | rfl | (simp [errW_none, errW_some] <;> rfl) | (simp only [← hji70]; first | rfl | (simp [errW_none, errW_some] <;> rfl)) | (simp [*, errW_none, errW_some] <;> rfl), by repeat (first | (with_reducible first | exact HB.out | apply below_alloc | apply pw_below_drewN | apply below_drew1 | refine below_set ?_ GE154.out) | exact HB.out)⟩
                          · rw [if_neg c72] at H
                            exact absurd H (by simp)
                        · rw [if_neg c71] at H
                          exact absurd H (by simp)
                      · rw [if_neg c69] at H
                        have c69b0 : decide (0 < x11_1) = false := decide_eq_false c69
                        clear c69
                        have H' := Aside0.mk H
                        clear H
                        have p153 : 0 ≤ (x11_1 : Int) := of_decide_eq_true (by first | (with_reducible assumption) | assumption)
                        have q153 : x11_1 < (l0.length : Int) := of_decide_eq_true (by first | (with_reducible assumption) | assumption)
                        obtain ⟨ad153, e153, hx153_0, hx153_1, hx153_2⟩ := at_T43 HR0.out x11_1 p153 q153
                        (try rw [← Nbq6.out] at hx153_0)
                        cases e153
                        replace hx153_0 := (HB.out.cell (World.block_lt_of_cell? w _ hx153_0)).trans hx153_0
                        replace hx153_1 := (HB.out.cell (World.block_lt_of_cell? w _ hx153_1)).trans hx153_1
                        replace hx153_2 := (HB.out.cell (World.block_lt_of_cell? w _ hx153_2)).trans hx153_2
                        replace p153 := eq_true p153
                        replace q153 := eq_true q153
                        go_wp2_with (first | ((with_reducible refine gate_dst (N := 4) rfl ?_); refine box_event ?hg (N := 4) ?hd (cs := #[.bool false, .int .i64 0, .string (⟨#[]⟩ : ByteArray)]) (t := 43) ?hr ?_; (case hd => rfl); (case hg => rfl); (case hr => first | (go_simp; done) | (go_simp; rfl)); intro gb154 hg w79 hbox hb; have n0_ := Aside0.mk (below_step (by repeat (first | (with_reducible first | exact HB.out | apply below_alloc | apply pw_below_drewN | apply below_drew1) | exact HB.out)) hb); have n1_ := Aside0.mk (hbox); have n2_ := Aside0.mk ((by rw [hg]; exact (below_size (by repeat (first | (with_reducible first | exact HB.out | apply below_alloc | apply pw_below_drewN | apply below_drew1) | exact HB.out))) : w.heap.size ≤ gb154)); have n3_ := Aside0.mk ((by rw [hg]; exact (below_size (by repeat (first | (with_reducible first | exact HB.out | apply below_alloc | apply pw_below_drewN | apply below_drew1) | exact HB.out))) : w.heap.size ≤ gb154)); clear HB; have HB := n0_; have BK154 := n1_; have GW154 := n2_; have GE154 := n3_; clear n0_ n1_ n2_ n3_; clear hb hbox hg; have hcz80_0 : w79.cell? ⟨gb154, 0, none⟩ = some (.bool false) := (blk_cell BK154.out 0).trans rfl; have hcz80_1 : w79.cell? ⟨gb154, 1, none⟩ = some (.int .i64 0) := (blk_cell BK154.out 1).trans rfl; have hcz80_2 : w79.cell? ⟨gb154, 2, none⟩ = some (.string (⟨#[]⟩ : ByteArray)) := (blk_cell BK154.out 2).trans rfl; have hfz80_0 := blk_frozen BK154.out 0; have hfz80_1 := blk_frozen BK154.out 1; have hfz80_2 := blk_frozen BK154.out 2))
                        go_roundg k1
                        case measure => have := HK1.out; omega
                        case rel => exact ⟨(wrap64 (x11_1 + 1)), (by first | rfl | (simp; done) | (simp [*]; done)), H', ⟨by have := HK1.out; omega⟩, ⟨by repeat (first | (with_reducible first | exact HB.out | apply below_alloc | apply pw_below_drewN | apply below_drew1 | refine below_set ?_ GE154.out) | exact HB.out)⟩⟩
                    · rw [if_neg c68] at H
                      have c68b0 : (((rd_T43 l0 x11_1).f2).toList == ([] : List UInt8)) = true := beq_iff_eq.mpr (Classical.not_not.1 c68)
                      have c68b1 : (((rd_T43 l0 x11_1).f2).toList != ([] : List UInt8)) = false := bne_eq_false_iff_eq.mpr (Classical.not_not.1 c68)
                      obtain rfl := Option.some.inj H
                      have p153 : 0 ≤ (x11_1 : Int) := of_decide_eq_true (by first | (with_reducible assumption) | assumption)
                      have q153 : x11_1 < (l0.length : Int) := of_decide_eq_true (by first | (with_reducible assumption) | assumption)
                      obtain ⟨ad153, e153, hx153_0, hx153_1, hx153_2⟩ := at_T43 HR0.out x11_1 p153 q153
                      (try rw [← Nbq6.out] at hx153_0)
                      cases e153
                      replace hx153_0 := (HB.out.cell (World.block_lt_of_cell? w _ hx153_0)).trans hx153_0
                      replace hx153_1 := (HB.out.cell (World.block_lt_of_cell? w _ hx153_1)).trans hx153_1
                      replace hx153_2 := (HB.out.cell (World.block_lt_of_cell? w _ hx153_2)).trans hx153_2
                      replace p153 := eq_true p153
                      replace q153 := eq_true q153
                      go_wp2_with (first | ((with_reducible refine gate_dst (N := 4) rfl ?_); refine box_event ?hg (N := 4) ?hd (cs := #[.bool false, .int .i64 0, .string (⟨#[]⟩ : ByteArray)]) (t := 43) ?hr ?_; (case hd => rfl); (case hg => rfl); (case hr => first | (go_simp; done) | (go_simp; rfl)); intro gb154 hg w81 hbox hb; have n0_ := Aside0.mk (below_step (by repeat (first | (with_reducible first | exact HB.out | apply below_alloc | apply pw_below_drewN | apply below_drew1) | exact HB.out)) hb); have n1_ := Aside0.mk (hbox); have n2_ := Aside0.mk ((by rw [hg]; exact (below_size (by repeat (first | (with_reducible first | exact HB.out | apply below_alloc | apply pw_below_drewN | apply below_drew1) | exact HB.out))) : w.heap.size ≤ gb154)); have n3_ := Aside0.mk ((by rw [hg]; exact (below_size (by repeat (first | (with_reducible first | exact HB.out | apply below_alloc | apply pw_below_drewN | apply below_drew1) | exact HB.out))) : w.heap.size ≤ gb154)); clear HB; have HB := n0_; have BK154 := n1_; have GW154 := n2_; have GE154 := n3_; clear n0_ n1_ n2_ n3_; clear hb hbox hg; have hcz82_0 : w81.cell? ⟨gb154, 0, none⟩ = some (.bool false) := (blk_cell BK154.out 0).trans rfl; have hcz82_1 : w81.cell? ⟨gb154, 1, none⟩ = some (.int .i64 0) := (blk_cell BK154.out 1).trans rfl; have hcz82_2 : w81.cell? ⟨gb154, 2, none⟩ = some (.string (⟨#[]⟩ : ByteArray)) := (blk_cell BK154.out 2).trans rfl; have hfz82_0 := blk_frozen BK154.out 0; have hfz82_1 := blk_frozen BK154.out 1; have hfz82_2 := blk_frozen BK154.out 2))
                      go_ret
                      exact ⟨by first | rfl | (simp [errW_none, errW_some] <;> rfl) | (simp [*, errW_none, errW_some] <;> rfl), by repeat (first | (with_reducible first | exact HB.out | apply below_alloc | apply pw_below_drewN | apply below_drew1 | refine below_set ?_ GE154.out) | exact HB.out)⟩
                  · rw [if_neg c67] at H
                    have c67b0 : (((rd_T43 l0 x11_1).f1) == 0) = false := beq_eq_false_iff_ne.mpr c67
                    have c67b1 : (((rd_T43 l0 x11_1).f1) != 0) = true := bne_iff_ne.mpr c67
                    obtain rfl := Option.some.inj H
                    have p153 : 0 ≤ (x11_1 : Int) := of_decide_eq_true (by first | (with_reducible assumption) | assumption)
                    have q153 : x11_1 < (l0.length : Int) := of_decide_eq_true (by first | (with_reducible assumption) | assumption)
                    obtain ⟨ad153, e153, hx153_0, hx153_1, hx153_2⟩ := at_T43 HR0.out x11_1 p153 q153
                    (try rw [← Nbq6.out] at hx153_0)
                    cases e153
                    replace hx153_0 := (HB.out.cell (World.block_lt_of_cell? w _ hx153_0)).trans hx153_0
                    replace hx153_1 := (HB.out.cell (World.block_lt_of_cell? w _ hx153_1)).trans hx153_1
                    replace hx153_2 := (HB.out.cell (World.block_lt_of_cell? w _ hx153_2)).trans hx153_2
                    replace p153 := eq_true p153
                    replace q153 := eq_true q153
                    go_wp2_with (first | ((with_reducible refine gate_dst (N := 4) rfl ?_); refine box_event ?hg (N := 4) ?hd (cs := #[.bool false, .int .i64 0, .string (⟨#[]⟩ : ByteArray)]) (t := 43) ?hr ?_; (case hd => rfl); (case hg => rfl); (case hr => first | (go_simp; done) | (go_simp; rfl)); intro gb154 hg w83 hbox hb; have n0_ := Aside0.mk (below_step (by repeat (first | (with_reducible first | exact HB.out | apply below_alloc | apply pw_below_drewN | apply below_drew1) | exact HB.out)) hb); have n1_ := Aside0.mk (hbox); have n2_ := Aside0.mk ((by rw [hg]; exact (below_size (by repeat (first | (with_reducible first | exact HB.out | apply below_alloc | apply pw_below_drewN | apply below_drew1) | exact HB.out))) : w.heap.size ≤ gb154)); have n3_ := Aside0.mk ((by rw [hg]; exact (below_size (by repeat (first | (with_reducible first | exact HB.out | apply below_alloc | apply pw_below_drewN | apply below_drew1) | exact HB.out))) : w.heap.size ≤ gb154)); clear HB; have HB := n0_; have BK154 := n1_; have GW154 := n2_; have GE154 := n3_; clear n0_ n1_ n2_ n3_; clear hb hbox hg; have hcz84_0 : w83.cell? ⟨gb154, 0, none⟩ = some (.bool false) := (blk_cell BK154.out 0).trans rfl; have hcz84_1 : w83.cell? ⟨gb154, 1, none⟩ = some (.int .i64 0) := (blk_cell BK154.out 1).trans rfl; have hcz84_2 : w83.cell? ⟨gb154, 2, none⟩ = some (.string (⟨#[]⟩ : ByteArray)) := (blk_cell BK154.out 2).trans rfl; have hfz84_0 := blk_frozen BK154.out 0; have hfz84_1 := blk_frozen BK154.out 1; have hfz84_2 := blk_frozen BK154.out 2))
                    go_ret
                    exact ⟨by first | rfl | (simp [errW_none, errW_some] <;> rfl) | (simp [*, errW_none, errW_some] <;> rfl), by repeat (first | (with_reducible first | exact HB.out | apply below_alloc | apply pw_below_drewN | apply below_drew1 | refine below_set ?_ GE154.out) | exact HB.out)⟩
            · rw [if_neg c5] at H
              exact absurd H (by simp)
          · rw [if_neg c4] at H
            exact absurd H (by simp)
        · rw [if_neg c3] at H
          have c3b0 : decide (x11_1 < (l0.length : Int)) = false := decide_eq_false c3
          clear c3
          obtain rfl := Option.some.inj H
          go_wp2
          go_ret
          exact ⟨by first | rfl | (simp [errW_none, errW_some] <;> rfl) | (simp [*, errW_none, errW_some] <;> rfl), by repeat (first | (with_reducible first | exact HB.out | apply below_alloc | apply pw_below_drewN | apply below_drew1) | exact HB.out)⟩

end Go.Proofs.Ytimcafohmahapaa.F

-- F14
namespace Go.Proofs.Ytimcafohmahapaa.F
open Go.RowKit Go.Proofs.YtimcafohmahapaaW.PrintWords Go.Proofs.YtimcafohmahapaaW.PrintLast Go.Proofs.YtimcafohmahapaaW.PrintMore
attribute [local go_sem] max2_int min2_int max_two min_two max_three min_three max_four min_four   -- for this text's walks alone
set_option linter.unusedVariables false
set_option linter.unusedSimpArgs false

end Go.Proofs.Ytimcafohmahapaa.F

-- F10
namespace Go.Proofs.Ytimcafohmahapaa.F
open Go.RowKit Go.Proofs.YtimcafohmahapaaW.PrintWords Go.Proofs.YtimcafohmahapaaW.PrintLast Go.Proofs.YtimcafohmahapaaW.PrintMore
attribute [local go_sem] max2_int min2_int max_two min_two max_three min_three max_four min_four   -- for this text's walks alone
set_option linter.unusedVariables false
set_option linter.unusedSimpArgs false

end Go.Proofs.Ytimcafohmahapaa.F

-- F11
namespace Go.Proofs.Ytimcafohmahapaa.F
open Go.RowKit Go.Proofs.YtimcafohmahapaaW.PrintWords Go.Proofs.YtimcafohmahapaaW.PrintLast Go.Proofs.YtimcafohmahapaaW.PrintMore
attribute [local go_sem] max2_int min2_int max_two min_two max_three min_three max_four min_four   -- for this text's walks alone
set_option linter.unusedVariables false
set_option linter.unusedSimpArgs false

end Go.Proofs.Ytimcafohmahapaa.F

-- F68
namespace Go.Proofs.Ytimcafohmahapaa.F
open Go.RowKit Go.Proofs.YtimcafohmahapaaW.PrintWords Go.Proofs.YtimcafohmahapaaW.PrintLast Go.Proofs.YtimcafohmahapaaW.PrintMore
attribute [local go_sem] max2_int min2_int max_two min_two max_three min_three max_four min_four   -- for this text's walks alone
set_option linter.unusedVariables false
set_option linter.unusedSimpArgs false

/-! ### bits_Mul64: function 68 -/
def bits_Mul64.f (a0 : Int) (a1 : Int) : Option (Int × Int) := some (IntKind.u64.wrap ((IntKind.u64.wrap ((IntKind.u64.wrap ((a0 / 4294967296) * (a1 / 4294967296))) + ((IntKind.u64.wrap ((IntKind.u64.wrap ((a0 / 4294967296) * (Go.bits .and .u64 a1 4294967295))) + ((IntKind.u64.wrap ((Go.bits .and .u64 a0 4294967295) * (Go.bits .and .u64 a1 4294967295))) / 4294967296))) / 4294967296))) + ((IntKind.u64.wrap ((Go.bits .and .u64 (IntKind.u64.wrap ((IntKind.u64.wrap ((a0 / 4294967296) * (Go.bits .and .u64 a1 4294967295))) + ((IntKind.u64.wrap ((Go.bits .and .u64 a0 4294967295) * (Go.bits .and .u64 a1 4294967295))) / 4294967296))) 4294967295) + (IntKind.u64.wrap ((Go.bits .and .u64 a0 4294967295) * (a1 / 4294967296))))) / 4294967296)), IntKind.u64.wrap (a0 * a1))
set_option maxHeartbeats 8000000 in
set_option maxRecDepth 100000 in
theorem bits_Mul64.calls (a0 : Int) (a1 : Int) (r1 : Int) (r2 : Int) (w : World) (h : bits_Mul64.f a0 a1 = some (r1, r2)) :
    Calls Try.prog 68 #[.int .u64 a0, .int .u64 a1] w fun e w' => e = .returned (.tuple #[.int .u64 r1, .int .u64 r2]) ∧ Drawn0 w w' := by
  have H : (some (IntKind.u64.wrap ((IntKind.u64.wrap ((IntKind.u64.wrap ((a0 / 4294967296) * (a1 / 4294967296))) + ((IntKind.u64.wrap ((IntKind.u64.wrap ((a0 / 4294967296) * (Go.bits .and .u64 a1 4294967295))) + ((IntKind.u64.wrap ((Go.bits .and .u64 a0 4294967295) * (Go.bits .and .u64 a1 4294967295))) / 4294967296))) / 4294967296))) + ((IntKind.u64.wrap ((Go.bits .and .u64 (IntKind.u64.wrap ((IntKind.u64.wrap ((a0 / 4294967296) * (Go.bits .and .u64 a1 4294967295))) + ((IntKind.u64.wrap ((Go.bits .and .u64 a0 4294967295) * (Go.bits .and .u64 a1 4294967295))) / 4294967296))) 4294967295) + (IntKind.u64.wrap ((Go.bits .and .u64 a0 4294967295) * (a1 / 4294967296))))) / 4294967296)), IntKind.u64.wrap (a0 * a1))) = some (r1, r2) := h
  clear h
  simp only [Option.some.injEq, Prod.mk.injEq] at H
  obtain ⟨rfl, rfl⟩ := H
  go_enter Try.func68, Try.ntmps68
  go_wp2
  go_ret2
  exact ⟨by first | rfl | (simp; done) | (simp [*]; done), by repeat (first | exact Drawn0.refl _ | apply Drawn0.step)⟩

-- NOT PRINTED: function 69 (bits_Add64)

-- NOT PRINTED: function 61 (sha_aboveCube)

end Go.Proofs.Ytimcafohmahapaa.F

-- F71
namespace Go.Proofs.Ytimcafohmahapaa.F
open Go.RowKit Go.Proofs.YtimcafohmahapaaW.PrintWords Go.Proofs.YtimcafohmahapaaW.PrintLast Go.Proofs.YtimcafohmahapaaW.PrintMore
attribute [local go_sem] max2_int min2_int max_two min_two max_three min_three max_four min_four   -- for this text's walks alone
set_option linter.unusedVariables false
set_option linter.unusedSimpArgs false

/-! ### strongroomref02_product: function 71 -/
def strongroomref02_product.f (a0 : Int) (a1 : Int) : Option (Int × Int) := some (IntKind.u64.wrap ((IntKind.u64.wrap ((IntKind.u64.wrap ((IntKind.u64.wrap (Int.tdiv a0 4294967296)) * (IntKind.u64.wrap (Int.tdiv a1 4294967296)))) + (IntKind.u64.wrap (Int.tdiv (IntKind.u64.wrap ((IntKind.u64.wrap ((IntKind.u64.wrap (Int.tdiv a0 4294967296)) * (Int.tmod a1 4294967296))) + (IntKind.u64.wrap (Int.tdiv (IntKind.u64.wrap ((Int.tmod a0 4294967296) * (Int.tmod a1 4294967296))) 4294967296)))) 4294967296)))) + (IntKind.u64.wrap (Int.tdiv (IntKind.u64.wrap ((IntKind.u64.wrap ((Int.tmod a0 4294967296) * (IntKind.u64.wrap (Int.tdiv a1 4294967296)))) + (Int.tmod (IntKind.u64.wrap ((IntKind.u64.wrap ((IntKind.u64.wrap (Int.tdiv a0 4294967296)) * (Int.tmod a1 4294967296))) + (IntKind.u64.wrap (Int.tdiv (IntKind.u64.wrap ((Int.tmod a0 4294967296) * (Int.tmod a1 4294967296))) 4294967296)))) 4294967296))) 4294967296))), IntKind.u64.wrap ((IntKind.u64.wrap ((Int.tmod (IntKind.u64.wrap ((IntKind.u64.wrap ((Int.tmod a0 4294967296) * (IntKind.u64.wrap (Int.tdiv a1 4294967296)))) + (Int.tmod (IntKind.u64.wrap ((IntKind.u64.wrap ((IntKind.u64.wrap (Int.tdiv a0 4294967296)) * (Int.tmod a1 4294967296))) + (IntKind.u64.wrap (Int.tdiv (IntKind.u64.wrap ((Int.tmod a0 4294967296) * (Int.tmod a1 4294967296))) 4294967296)))) 4294967296))) 4294967296) * 4294967296)) + (Int.tmod (IntKind.u64.wrap ((Int.tmod a0 4294967296) * (Int.tmod a1 4294967296))) 4294967296)))
set_option maxHeartbeats 8000000 in
set_option maxRecDepth 100000 in
theorem strongroomref02_product.calls (a0 : Int) (a1 : Int) (r1 : Int) (r2 : Int) (w : World) (h : strongroomref02_product.f a0 a1 = some (r1, r2)) :
    Calls Try.prog 71 #[.int .u64 a0, .int .u64 a1] w fun e w' => e = .returned (.tuple #[.int .u64 r1, .int .u64 r2]) ∧ Drawn0 w w' := by
  have H : (some (IntKind.u64.wrap ((IntKind.u64.wrap ((IntKind.u64.wrap ((IntKind.u64.wrap (Int.tdiv a0 4294967296)) * (IntKind.u64.wrap (Int.tdiv a1 4294967296)))) + (IntKind.u64.wrap (Int.tdiv (IntKind.u64.wrap ((IntKind.u64.wrap ((IntKind.u64.wrap (Int.tdiv a0 4294967296)) * (Int.tmod a1 4294967296))) + (IntKind.u64.wrap (Int.tdiv (IntKind.u64.wrap ((Int.tmod a0 4294967296) * (Int.tmod a1 4294967296))) 4294967296)))) 4294967296)))) + (IntKind.u64.wrap (Int.tdiv (IntKind.u64.wrap ((IntKind.u64.wrap ((Int.tmod a0 4294967296) * (IntKind.u64.wrap (Int.tdiv a1 4294967296)))) + (Int.tmod (IntKind.u64.wrap ((IntKind.u64.wrap ((IntKind.u64.wrap (Int.tdiv a0 4294967296)) * (Int.tmod a1 4294967296))) + (IntKind.u64.wrap (Int.tdiv (IntKind.u64.wrap ((Int.tmod a0 4294967296) * (Int.tmod a1 4294967296))) 4294967296)))) 4294967296))) 4294967296))), IntKind.u64.wrap ((IntKind.u64.wrap ((Int.tmod (IntKind.u64.wrap ((IntKind.u64.wrap ((Int.tmod a0 4294967296) * (IntKind.u64.wrap (Int.tdiv a1 4294967296)))) + (Int.tmod (IntKind.u64.wrap ((IntKind.u64.wrap ((IntKind.u64.wrap (Int.tdiv a0 4294967296)) * (Int.tmod a1 4294967296))) + (IntKind.u64.wrap (Int.tdiv (IntKind.u64.wrap ((Int.tmod a0 4294967296) * (Int.tmod a1 4294967296))) 4294967296)))) 4294967296))) 4294967296) * 4294967296)) + (Int.tmod (IntKind.u64.wrap ((Int.tmod a0 4294967296) * (Int.tmod a1 4294967296))) 4294967296)))) = some (r1, r2) := h
  clear h
  simp only [Option.some.injEq, Prod.mk.injEq] at H
  obtain ⟨rfl, rfl⟩ := H
  go_enter Try.func71, Try.ntmps71
  go_wp2
  go_ret2
  exact ⟨by first | rfl | (simp; done) | (simp [*]; done), by repeat (first | exact Drawn0.refl _ | apply Drawn0.step)⟩

end Go.Proofs.Ytimcafohmahapaa.F

-- F62
namespace Go.Proofs.Ytimcafohmahapaa.F
open Go.RowKit Go.Proofs.YtimcafohmahapaaW.PrintWords Go.Proofs.YtimcafohmahapaaW.PrintLast Go.Proofs.YtimcafohmahapaaW.PrintMore
attribute [local go_sem] max2_int min2_int max_two min_two max_three min_three max_four min_four   -- for this text's walks alone
set_option linter.unusedVariables false
set_option linter.unusedSimpArgs false

/-! ### sha_above: function 62 -/
def sha_above.f (a0 : Int) (a1 : Int) : Option (Bool) := (bits_Mul64.f a0 a0).bind fun bt116 => (if bt116.1 > a1 then (some true) else (if bt116.1 = a1 then (some (decide (bt116.2 > 0))) else (some false)))
set_option maxHeartbeats 8000000 in
set_option maxRecDepth 100000 in
theorem sha_above.calls (a0 : Int) (a1 : Int) (r : Bool) (w : World) (h : sha_above.f a0 a1 = some r) :
    Calls Try.prog 62 #[.int .u64 a0, .int .u64 a1] w fun e w' => e = .returned (.bool r) ∧ Drawn0 w w' := by
  have H : ((bits_Mul64.f a0 a0).bind fun bt116 => (if bt116.1 > a1 then (some true) else (if bt116.1 = a1 then (some (decide (bt116.2 > 0))) else (some false)))) = some r := h
  clear h
  replace H := Option.bind_eq_some_iff.mp H
  obtain ⟨⟨t116, t117⟩, A30, H⟩ := H
  replace H : (if t116 > a1 then (some true) else (if t116 = a1 then (some (decide (t117 > 0))) else (some false))) = some r := H
  have A3 := Aside0.mk A30
  clear A30
  by_cases c4 : t116 > a1
  · rw [if_pos c4] at H
    have c4b0 : decide (a1 < t116) = true := decide_eq_true c4
    clear c4
    obtain rfl := Option.some.inj H
    go_enter Try.func62, Try.ntmps62
    go_wp2_with (first | ((with_reducible refine gate_callee (f := 68) rfl ?_); refine goesL_ (some 10) rfl rfl Try.func68 (by kernel_rfl) rfl #[.int .u64 a0, .int .u64 a0] rfl (by (try simp only [List.map_toArray, List.map_cons, List.map_nil]); first | done | rfl | (simp only [List.length_drop, List.length_take]; rfl)) ?_; (with_reducible refine (bits_Mul64.calls a0 a0 t116 t117 _ A3.out).mono ?_); rintro e w' ⟨rfl, ⟨nd, rfl⟩⟩; refine ⟨_, rfl, ?_⟩))
    go_ret
    exact ⟨by first | rfl | (simp; done) | (simp [*]; done), by repeat (first | exact Drawn0.refl _ | apply Drawn0.step)⟩
  · rw [if_neg c4] at H
    have c4b0 : decide (a1 < t116) = false := decide_eq_false c4
    clear c4
    by_cases c5 : t116 = a1
    · rw [if_pos c5] at H
      have c5b0 : (t116 == a1) = true := beq_iff_eq.mpr c5
      have c5b1 : (t116 != a1) = false := bne_eq_false_iff_eq.mpr c5
      clear c5
      obtain rfl := Option.some.inj H
      go_enter Try.func62, Try.ntmps62
      go_wp2_with (first | ((with_reducible refine gate_callee (f := 68) rfl ?_); refine goesL_ (some 10) rfl rfl Try.func68 (by kernel_rfl) rfl #[.int .u64 a0, .int .u64 a0] rfl (by (try simp only [List.map_toArray, List.map_cons, List.map_nil]); first | done | rfl | (simp only [List.length_drop, List.length_take]; rfl)) ?_; (with_reducible refine (bits_Mul64.calls a0 a0 t116 t117 _ A3.out).mono ?_); rintro e w' ⟨rfl, ⟨nd, rfl⟩⟩; refine ⟨_, rfl, ?_⟩))
      go_ret
      exact ⟨by first | rfl | (simp; done) | (simp [*]; done), by repeat (first | exact Drawn0.refl _ | apply Drawn0.step)⟩
    · rw [if_neg c5] at H
      have c5b0 : (t116 == a1) = false := beq_eq_false_iff_ne.mpr c5
      have c5b1 : (t116 != a1) = true := bne_iff_ne.mpr c5
      obtain rfl := Option.some.inj H
      go_enter Try.func62, Try.ntmps62
      go_wp2_with (first | ((with_reducible refine gate_callee (f := 68) rfl ?_); refine goesL_ (some 10) rfl rfl Try.func68 (by kernel_rfl) rfl #[.int .u64 a0, .int .u64 a0] rfl (by (try simp only [List.map_toArray, List.map_cons, List.map_nil]); first | done | rfl | (simp only [List.length_drop, List.length_take]; rfl)) ?_; (with_reducible refine (bits_Mul64.calls a0 a0 t116 t117 _ A3.out).mono ?_); rintro e w' ⟨rfl, ⟨nd, rfl⟩⟩; refine ⟨_, rfl, ?_⟩))
      go_ret
      exact ⟨by first | rfl | (simp; done) | (simp [*]; done), by repeat (first | exact Drawn0.refl _ | apply Drawn0.step)⟩

-- NOT PRINTED: function 51 (sha_Root)

-- NOT PRINTED: function 50 (sha_roots)

end Go.Proofs.Ytimcafohmahapaa.F

-- F66
namespace Go.Proofs.Ytimcafohmahapaa.F
open Go.RowKit Go.Proofs.YtimcafohmahapaaW.PrintWords Go.Proofs.YtimcafohmahapaaW.PrintLast Go.Proofs.YtimcafohmahapaaW.PrintMore
attribute [local go_sem] max2_int min2_int max_two min_two max_three min_three max_four min_four   -- for this text's walks alone
set_option linter.unusedVariables false
set_option linter.unusedSimpArgs false

/-! ### strongroomref02_below: function 66 -/
def strongroomref02_below.f (a0 : Int) (a1 : Int) : Option (Bool) := (strongroomref02_product.f a0 a0).bind fun bt275 => (if bt275.1 < a1 then (some true) else (if bt275.1 = a1 then (some (bt275.2 == 0)) else (some false)))
set_option maxHeartbeats 8000000 in
set_option maxRecDepth 100000 in
theorem strongroomref02_below.calls (a0 : Int) (a1 : Int) (r : Bool) (w : World) (h : strongroomref02_below.f a0 a1 = some r) :
    Calls Try.prog 66 #[.int .u64 a0, .int .u64 a1] w fun e w' => e = .returned (.bool r) ∧ Drawn0 w w' := by
  have H : ((strongroomref02_product.f a0 a0).bind fun bt275 => (if bt275.1 < a1 then (some true) else (if bt275.1 = a1 then (some (bt275.2 == 0)) else (some false)))) = some r := h
  clear h
  replace H := Option.bind_eq_some_iff.mp H
  obtain ⟨⟨t275, t276⟩, A30, H⟩ := H
  replace H : (if t275 < a1 then (some true) else (if t275 = a1 then (some (t276 == 0)) else (some false))) = some r := H
  have A3 := Aside0.mk A30
  clear A30
  by_cases c4 : t275 < a1
  · rw [if_pos c4] at H
    have c4b0 : decide (t275 < a1) = true := decide_eq_true c4
    clear c4
    obtain rfl := Option.some.inj H
    go_enter Try.func66, Try.ntmps66
    go_wp2_with (first | ((with_reducible refine gate_callee (f := 71) rfl ?_); refine goesL_ (some 10) rfl rfl Try.func71 (by kernel_rfl) rfl #[.int .u64 a0, .int .u64 a0] rfl (by (try simp only [List.map_toArray, List.map_cons, List.map_nil]); first | done | rfl | (simp only [List.length_drop, List.length_take]; rfl)) ?_; (with_reducible refine (strongroomref02_product.calls a0 a0 t275 t276 _ A3.out).mono ?_); rintro e w' ⟨rfl, ⟨nd, rfl⟩⟩; refine ⟨_, rfl, ?_⟩))
    go_ret
    exact ⟨by first | rfl | (simp; done) | (simp [*]; done), by repeat (first | exact Drawn0.refl _ | apply Drawn0.step)⟩
  · rw [if_neg c4] at H
    have c4b0 : decide (t275 < a1) = false := decide_eq_false c4
    clear c4
    by_cases c5 : t275 = a1
    · rw [if_pos c5] at H
      have c5b0 : (t275 == a1) = true := beq_iff_eq.mpr c5
      have c5b1 : (t275 != a1) = false := bne_eq_false_iff_eq.mpr c5
      clear c5
      obtain rfl := Option.some.inj H
      go_enter Try.func66, Try.ntmps66
      go_wp2_with (first | ((with_reducible refine gate_callee (f := 71) rfl ?_); refine goesL_ (some 10) rfl rfl Try.func71 (by kernel_rfl) rfl #[.int .u64 a0, .int .u64 a0] rfl (by (try simp only [List.map_toArray, List.map_cons, List.map_nil]); first | done | rfl | (simp only [List.length_drop, List.length_take]; rfl)) ?_; (with_reducible refine (strongroomref02_product.calls a0 a0 t275 t276 _ A3.out).mono ?_); rintro e w' ⟨rfl, ⟨nd, rfl⟩⟩; refine ⟨_, rfl, ?_⟩))
      go_ret
      exact ⟨by first | rfl | (simp; done) | (simp [*]; done), by repeat (first | exact Drawn0.refl _ | apply Drawn0.step)⟩
    · rw [if_neg c5] at H
      have c5b0 : (t275 == a1) = false := beq_eq_false_iff_ne.mpr c5
      have c5b1 : (t275 != a1) = true := bne_iff_ne.mpr c5
      obtain rfl := Option.some.inj H
      go_enter Try.func66, Try.ntmps66
      go_wp2_with (first | ((with_reducible refine gate_callee (f := 71) rfl ?_); refine goesL_ (some 10) rfl rfl Try.func71 (by kernel_rfl) rfl #[.int .u64 a0, .int .u64 a0] rfl (by (try simp only [List.map_toArray, List.map_cons, List.map_nil]); first | done | rfl | (simp only [List.length_drop, List.length_take]; rfl)) ?_; (with_reducible refine (strongroomref02_product.calls a0 a0 t275 t276 _ A3.out).mono ?_); rintro e w' ⟨rfl, ⟨nd, rfl⟩⟩; refine ⟨_, rfl, ?_⟩))
      go_ret
      exact ⟨by first | rfl | (simp; done) | (simp [*]; done), by repeat (first | exact Drawn0.refl _ | apply Drawn0.step)⟩

end Go.Proofs.Ytimcafohmahapaa.F

-- F65
namespace Go.Proofs.Ytimcafohmahapaa.F
open Go.RowKit Go.Proofs.YtimcafohmahapaaW.PrintWords Go.Proofs.YtimcafohmahapaaW.PrintLast Go.Proofs.YtimcafohmahapaaW.PrintMore
attribute [local go_sem] max2_int min2_int max_two min_two max_three min_three max_four min_four   -- for this text's walks alone
set_option linter.unusedVariables false
set_option linter.unusedSimpArgs false

/-! ### strongroomref02_cubeBelow: function 65 -/
def strongroomref02_cubeBelow.f (a0 : Int) (a1 : Int) : Option (Bool) := (strongroomref02_product.f a0 a0).bind fun bt269 => ((strongroomref02_product.f bt269.2 a0).bind fun bt271 => ((strongroomref02_product.f bt269.1 a0).bind fun bt273 => (if bt273.1 > 0 then (some false) else (if bt273.2 > (IntKind.u64.wrap (18446744073709551615 - bt271.1)) then (some false) else (if (IntKind.u64.wrap (bt273.2 + bt271.1)) < (IntKind.u64.wrap (a1 * 4294967296)) then (some true) else (if (IntKind.u64.wrap (bt273.2 + bt271.1)) = (IntKind.u64.wrap (a1 * 4294967296)) then (some (bt271.2 == 0)) else (some false)))))))
set_option maxHeartbeats 8000000 in
set_option maxRecDepth 100000 in
theorem strongroomref02_cubeBelow.calls (a0 : Int) (a1 : Int) (r : Bool) (w : World) (h : strongroomref02_cubeBelow.f a0 a1 = some r) :
    Calls Try.prog 65 #[.int .u64 a0, .int .u64 a1] w fun e w' => e = .returned (.bool r) ∧ Drawn0 w w' := by
  have H : ((strongroomref02_product.f a0 a0).bind fun bt269 => ((strongroomref02_product.f bt269.2 a0).bind fun bt271 => ((strongroomref02_product.f bt269.1 a0).bind fun bt273 => (if bt273.1 > 0 then (some false) else (if bt273.2 > (IntKind.u64.wrap (18446744073709551615 - bt271.1)) then (some false) else (if (IntKind.u64.wrap (bt273.2 + bt271.1)) < (IntKind.u64.wrap (a1 * 4294967296)) then (some true) else (if (IntKind.u64.wrap (bt273.2 + bt271.1)) = (IntKind.u64.wrap (a1 * 4294967296)) then (some (bt271.2 == 0)) else (some false)))))))) = some r := h
  clear h
  replace H := Option.bind_eq_some_iff.mp H
  obtain ⟨⟨t269, t270⟩, A30, H⟩ := H
  replace H : ((strongroomref02_product.f t270 a0).bind fun bt271 => ((strongroomref02_product.f t269 a0).bind fun bt273 => (if bt273.1 > 0 then (some false) else (if bt273.2 > (IntKind.u64.wrap (18446744073709551615 - bt271.1)) then (some false) else (if (IntKind.u64.wrap (bt273.2 + bt271.1)) < (IntKind.u64.wrap (a1 * 4294967296)) then (some true) else (if (IntKind.u64.wrap (bt273.2 + bt271.1)) = (IntKind.u64.wrap (a1 * 4294967296)) then (some (bt271.2 == 0)) else (some false))))))) = some r := H
  have A3 := Aside0.mk A30
  clear A30
  replace H := Option.bind_eq_some_iff.mp H
  obtain ⟨⟨t271, t272⟩, A40, H⟩ := H
  replace H : ((strongroomref02_product.f t269 a0).bind fun bt273 => (if bt273.1 > 0 then (some false) else (if bt273.2 > (IntKind.u64.wrap (18446744073709551615 - t271)) then (some false) else (if (IntKind.u64.wrap (bt273.2 + t271)) < (IntKind.u64.wrap (a1 * 4294967296)) then (some true) else (if (IntKind.u64.wrap (bt273.2 + t271)) = (IntKind.u64.wrap (a1 * 4294967296)) then (some (t272 == 0)) else (some false)))))) = some r := H
  have A4 := Aside0.mk A40
  clear A40
  replace H := Option.bind_eq_some_iff.mp H
  obtain ⟨⟨t273, t274⟩, A50, H⟩ := H
  replace H : (if t273 > 0 then (some false) else (if t274 > (IntKind.u64.wrap (18446744073709551615 - t271)) then (some false) else (if (IntKind.u64.wrap (t274 + t271)) < (IntKind.u64.wrap (a1 * 4294967296)) then (some true) else (if (IntKind.u64.wrap (t274 + t271)) = (IntKind.u64.wrap (a1 * 4294967296)) then (some (t272 == 0)) else (some false))))) = some r := H
  have A5 := Aside0.mk A50
  clear A50
  by_cases c6 : t273 > 0
  · rw [if_pos c6] at H
    have c6b0 : decide (0 < t273) = true := decide_eq_true c6
    clear c6
    obtain rfl := Option.some.inj H
    go_enter Try.func65, Try.ntmps65
    go_wp2_with (first | ((with_reducible refine gate_callee (f := 71) rfl ?_); refine goesL_ (some 14) rfl rfl Try.func71 (by kernel_rfl) rfl #[.int .u64 a0, .int .u64 a0] rfl (by (try simp only [List.map_toArray, List.map_cons, List.map_nil]); first | done | rfl | (simp only [List.length_drop, List.length_take]; rfl)) ?_; (with_reducible refine (strongroomref02_product.calls a0 a0 t269 t270 _ A3.out).mono ?_); rintro e w' ⟨rfl, ⟨nd, rfl⟩⟩; refine ⟨_, rfl, ?_⟩) | ((with_reducible refine gate_callee (f := 71) rfl ?_); refine goesL_ (some 20) rfl rfl Try.func71 (by kernel_rfl) rfl #[.int .u64 t270, .int .u64 a0] rfl (by (try simp only [List.map_toArray, List.map_cons, List.map_nil]); first | done | rfl | (simp only [List.length_drop, List.length_take]; rfl)) ?_; (with_reducible refine (strongroomref02_product.calls t270 a0 t271 t272 _ A4.out).mono ?_); rintro e w' ⟨rfl, ⟨nd, rfl⟩⟩; refine ⟨_, rfl, ?_⟩) | ((with_reducible refine gate_callee (f := 71) rfl ?_); refine goesL_ (some 26) rfl rfl Try.func71 (by kernel_rfl) rfl #[.int .u64 t269, .int .u64 a0] rfl (by (try simp only [List.map_toArray, List.map_cons, List.map_nil]); first | done | rfl | (simp only [List.length_drop, List.length_take]; rfl)) ?_; (with_reducible refine (strongroomref02_product.calls t269 a0 t273 t274 _ A5.out).mono ?_); rintro e w' ⟨rfl, ⟨nd, rfl⟩⟩; refine ⟨_, rfl, ?_⟩))
    go_ret
    exact ⟨by first | rfl | (simp; done) | (simp [*]; done), by repeat (first | exact Drawn0.refl _ | apply Drawn0.step)⟩
  · rw [if_neg c6] at H
    have c6b0 : decide (0 < t273) = false := decide_eq_false c6
    clear c6
    by_cases c7 : t274 > (IntKind.u64.wrap (18446744073709551615 - t271))
    · rw [if_pos c7] at H
      have c7b0 : decide ((IntKind.u64.wrap (18446744073709551615 - t271)) < t274) = true := decide_eq_true c7
      clear c7
      obtain rfl := Option.some.inj H
      go_enter Try.func65, Try.ntmps65
      go_wp2_with (first | ((with_reducible refine gate_callee (f := 71) rfl ?_); refine goesL_ (some 14) rfl rfl Try.func71 (by kernel_rfl) rfl #[.int .u64 a0, .int .u64 a0] rfl (by (try simp only [List.map_toArray, List.map_cons, List.map_nil]); first | done | rfl | (simp only [List.length_drop, List.length_take]; rfl)) ?_; (with_reducible refine (strongroomref02_product.calls a0 a0 t269 t270 _ A3.out).mono ?_); rintro e w' ⟨rfl, ⟨nd, rfl⟩⟩; refine ⟨_, rfl, ?_⟩) | ((with_reducible refine gate_callee (f := 71) rfl ?_); refine goesL_ (some 20) rfl rfl Try.func71 (by kernel_rfl) rfl #[.int .u64 t270, .int .u64 a0] rfl (by (try simp only [List.map_toArray, List.map_cons, List.map_nil]); first | done | rfl | (simp only [List.length_drop, List.length_take]; rfl)) ?_; (with_reducible refine (strongroomref02_product.calls t270 a0 t271 t272 _ A4.out).mono ?_); rintro e w' ⟨rfl, ⟨nd, rfl⟩⟩; refine ⟨_, rfl, ?_⟩) | ((with_reducible refine gate_callee (f := 71) rfl ?_); refine goesL_ (some 26) rfl rfl Try.func71 (by kernel_rfl) rfl #[.int .u64 t269, .int .u64 a0] rfl (by (try simp only [List.map_toArray, List.map_cons, List.map_nil]); first | done | rfl | (simp only [List.length_drop, List.length_take]; rfl)) ?_; (with_reducible refine (strongroomref02_product.calls t269 a0 t273 t274 _ A5.out).mono ?_); rintro e w' ⟨rfl, ⟨nd, rfl⟩⟩; refine ⟨_, rfl, ?_⟩))
      go_ret
      exact ⟨by first | rfl | (simp; done) | (simp [*]; done), by repeat (first | exact Drawn0.refl _ | apply Drawn0.step)⟩
    · rw [if_neg c7] at H
      have c7b0 : decide ((IntKind.u64.wrap (18446744073709551615 - t271)) < t274) = false := decide_eq_false c7
      clear c7
      by_cases c8 : (IntKind.u64.wrap (t274 + t271)) < (IntKind.u64.wrap (a1 * 4294967296))
      · rw [if_pos c8] at H
        have c8b0 : decide ((IntKind.u64.wrap (t274 + t271)) < (IntKind.u64.wrap (a1 * 4294967296))) = true := decide_eq_true c8
        clear c8
        obtain rfl := Option.some.inj H
        go_enter Try.func65, Try.ntmps65
        go_wp2_with (first | ((with_reducible refine gate_callee (f := 71) rfl ?_); refine goesL_ (some 14) rfl rfl Try.func71 (by kernel_rfl) rfl #[.int .u64 a0, .int .u64 a0] rfl (by (try simp only [List.map_toArray, List.map_cons, List.map_nil]); first | done | rfl | (simp only [List.length_drop, List.length_take]; rfl)) ?_; (with_reducible refine (strongroomref02_product.calls a0 a0 t269 t270 _ A3.out).mono ?_); rintro e w' ⟨rfl, ⟨nd, rfl⟩⟩; refine ⟨_, rfl, ?_⟩) | ((with_reducible refine gate_callee (f := 71) rfl ?_); refine goesL_ (some 20) rfl rfl Try.func71 (by kernel_rfl) rfl #[.int .u64 t270, .int .u64 a0] rfl (by (try simp only [List.map_toArray, List.map_cons, List.map_nil]); first | done | rfl | (simp only [List.length_drop, List.length_take]; rfl)) ?_; (with_reducible refine (strongroomref02_product.calls t270 a0 t271 t272 _ A4.out).mono ?_); rintro e w' ⟨rfl, ⟨nd, rfl⟩⟩; refine ⟨_, rfl, ?_⟩) | ((with_reducible refine gate_callee (f := 71) rfl ?_); refine goesL_ (some 26) rfl rfl Try.func71 (by kernel_rfl) rfl #[.int .u64 t269, .int .u64 a0] rfl (by (try simp only [List.map_toArray, List.map_cons, List.map_nil]); first | done | rfl | (simp only [List.length_drop, List.length_take]; rfl)) ?_; (with_reducible refine (strongroomref02_product.calls t269 a0 t273 t274 _ A5.out).mono ?_); rintro e w' ⟨rfl, ⟨nd, rfl⟩⟩; refine ⟨_, rfl, ?_⟩))
        go_ret
        exact ⟨by first | rfl | (simp; done) | (simp [*]; done), by repeat (first | exact Drawn0.refl _ | apply Drawn0.step)⟩
      · rw [if_neg c8] at H
        have c8b0 : decide ((IntKind.u64.wrap (t274 + t271)) < (IntKind.u64.wrap (a1 * 4294967296))) = false := decide_eq_false c8
        clear c8
        by_cases c9 : (IntKind.u64.wrap (t274 + t271)) = (IntKind.u64.wrap (a1 * 4294967296))
        · rw [if_pos c9] at H
          have c9b0 : ((IntKind.u64.wrap (t274 + t271)) == (IntKind.u64.wrap (a1 * 4294967296))) = true := beq_iff_eq.mpr c9
          have c9b1 : ((IntKind.u64.wrap (t274 + t271)) != (IntKind.u64.wrap (a1 * 4294967296))) = false := bne_eq_false_iff_eq.mpr c9
          clear c9
          obtain rfl := Option.some.inj H
          go_enter Try.func65, Try.ntmps65
          go_wp2_with (first | ((with_reducible refine gate_callee (f := 71) rfl ?_); refine goesL_ (some 14) rfl rfl Try.func71 (by kernel_rfl) rfl #[.int .u64 a0, .int .u64 a0] rfl (by (try simp only [List.map_toArray, List.map_cons, List.map_nil]); first | done | rfl | (simp only [List.length_drop, List.length_take]; rfl)) ?_; (with_reducible refine (strongroomref02_product.calls a0 a0 t269 t270 _ A3.out).mono ?_); rintro e w' ⟨rfl, ⟨nd, rfl⟩⟩; refine ⟨_, rfl, ?_⟩) | ((with_reducible refine gate_callee (f := 71) rfl ?_); refine goesL_ (some 20) rfl rfl Try.func71 (by kernel_rfl) rfl #[.int .u64 t270, .int .u64 a0] rfl (by (try simp only [List.map_toArray, List.map_cons, List.map_nil]); first | done | rfl | (simp only [List.length_drop, List.length_take]; rfl)) ?_; (with_reducible refine (strongroomref02_product.calls t270 a0 t271 t272 _ A4.out).mono ?_); rintro e w' ⟨rfl, ⟨nd, rfl⟩⟩; refine ⟨_, rfl, ?_⟩) | ((with_reducible refine gate_callee (f := 71) rfl ?_); refine goesL_ (some 26) rfl rfl Try.func71 (by kernel_rfl) rfl #[.int .u64 t269, .int .u64 a0] rfl (by (try simp only [List.map_toArray, List.map_cons, List.map_nil]); first | done | rfl | (simp only [List.length_drop, List.length_take]; rfl)) ?_; (with_reducible refine (strongroomref02_product.calls t269 a0 t273 t274 _ A5.out).mono ?_); rintro e w' ⟨rfl, ⟨nd, rfl⟩⟩; refine ⟨_, rfl, ?_⟩))
          go_ret
          exact ⟨by first | rfl | (simp; done) | (simp [*]; done), by repeat (first | exact Drawn0.refl _ | apply Drawn0.step)⟩
        · rw [if_neg c9] at H
          have c9b0 : ((IntKind.u64.wrap (t274 + t271)) == (IntKind.u64.wrap (a1 * 4294967296))) = false := beq_eq_false_iff_ne.mpr c9
          have c9b1 : ((IntKind.u64.wrap (t274 + t271)) != (IntKind.u64.wrap (a1 * 4294967296))) = true := bne_iff_ne.mpr c9
          obtain rfl := Option.some.inj H
          go_enter Try.func65, Try.ntmps65
          go_wp2_with (first | ((with_reducible refine gate_callee (f := 71) rfl ?_); refine goesL_ (some 14) rfl rfl Try.func71 (by kernel_rfl) rfl #[.int .u64 a0, .int .u64 a0] rfl (by (try simp only [List.map_toArray, List.map_cons, List.map_nil]); first | done | rfl | (simp only [List.length_drop, List.length_take]; rfl)) ?_; (with_reducible refine (strongroomref02_product.calls a0 a0 t269 t270 _ A3.out).mono ?_); rintro e w' ⟨rfl, ⟨nd, rfl⟩⟩; refine ⟨_, rfl, ?_⟩) | ((with_reducible refine gate_callee (f := 71) rfl ?_); refine goesL_ (some 20) rfl rfl Try.func71 (by kernel_rfl) rfl #[.int .u64 t270, .int .u64 a0] rfl (by (try simp only [List.map_toArray, List.map_cons, List.map_nil]); first | done | rfl | (simp only [List.length_drop, List.length_take]; rfl)) ?_; (with_reducible refine (strongroomref02_product.calls t270 a0 t271 t272 _ A4.out).mono ?_); rintro e w' ⟨rfl, ⟨nd, rfl⟩⟩; refine ⟨_, rfl, ?_⟩) | ((with_reducible refine gate_callee (f := 71) rfl ?_); refine goesL_ (some 26) rfl rfl Try.func71 (by kernel_rfl) rfl #[.int .u64 t269, .int .u64 a0] rfl (by (try simp only [List.map_toArray, List.map_cons, List.map_nil]); first | done | rfl | (simp only [List.length_drop, List.length_take]; rfl)) ?_; (with_reducible refine (strongroomref02_product.calls t269 a0 t273 t274 _ A5.out).mono ?_); rintro e w' ⟨rfl, ⟨nd, rfl⟩⟩; refine ⟨_, rfl, ?_⟩))
          go_ret
          exact ⟨by first | rfl | (simp; done) | (simp [*]; done), by repeat (first | exact Drawn0.refl _ | apply Drawn0.step)⟩

end Go.Proofs.Ytimcafohmahapaa.F

-- ShaM
namespace Go.Proofs.Ytimcafohmahapaa.F
open Go Go.RowKit Go.Proofs.YtimcafohmahapaaW.PrintWords Go.Proofs.YtimcafohmahapaaW.PrintLast Go.Proofs.YtimcafohmahapaaW.PrintMore
set_option linter.unusedSimpArgs false
set_option linter.unusedVariables false
theorem mul64_f (x y : Int) (hx0 : 0 ≤ x) (hx : x < 18446744073709551616) (hy0 : 0 ≤ y) (hy : y < 18446744073709551616) :
    bits_Mul64.f x y = some (x * y / 18446744073709551616, x * y % 18446744073709551616) := by
  have hm := mul64_arith x y hx0 hx hy0 hy
  unfold bits_Mul64.f
  simp only [IntKind.wrap_u64, and_low32 x hx0 hx, and_low32 y hy0 hy]
  rw [and_low32 _ (by omega) (by omega), hm]
theorem prod64_f (x y : Int) (hx0 : 0 ≤ x) (hx : x < 18446744073709551616) (hy0 : 0 ≤ y) (hy : y < 18446744073709551616) :
    strongroomref02_product.f x y = some (x * y / 18446744073709551616, x * y % 18446744073709551616) := by
  unfold strongroomref02_product.f
  simp only [IntKind.wrap_u64, Int.tdiv_eq_ediv_of_nonneg hx0, Int.tdiv_eq_ediv_of_nonneg hy0, Int.tmod_eq_emod_of_nonneg hx0, Int.tmod_eq_emod_of_nonneg hy0]
  have ex : x = x / 4294967296 * 4294967296 + x % 4294967296 := by omega
  have ey : y = y / 4294967296 * 4294967296 + y % 4294967296 := by omega
  have b1 : 0 ≤ x / 4294967296 ∧ x / 4294967296 ≤ 4294967295 := by omega
  have b2 : 0 ≤ x % 4294967296 ∧ x % 4294967296 ≤ 4294967295 := by omega
  have b3 : 0 ≤ y / 4294967296 ∧ y / 4294967296 ≤ 4294967295 := by omega
  have b4 : 0 ≤ y % 4294967296 ∧ y % 4294967296 ≤ 4294967295 := by omega
  rw [show x / 4294967296 % 18446744073709551616 = x / 4294967296 from by omega, show y / 4294967296 % 18446744073709551616 = y / 4294967296 from by omega]
  have hxy : x * y = x / 4294967296 * (y / 4294967296) * 18446744073709551616 + (x / 4294967296 * (y % 4294967296) + x % 4294967296 * (y / 4294967296)) * 4294967296 + x % 4294967296 * (y % 4294967296) := by
    conv => lhs; rw [ex, ey]
    exact split_mul _ _ _ _
  rw [hxy]
  have pA := prod_bound (x / 4294967296) (y / 4294967296) b1.1 b1.2 b3.1 b3.2
  have pB := prod_bound (x / 4294967296) (y % 4294967296) b1.1 b1.2 b4.1 b4.2
  have pC := prod_bound (x % 4294967296) (y % 4294967296) b2.1 b2.2 b4.1 b4.2
  have pD := prod_bound (x % 4294967296) (y / 4294967296) b2.1 b2.2 b3.1 b3.2
  clear hxy ex ey b1 b2 b3 b4
  generalize x / 4294967296 * (y / 4294967296) = A at *
  generalize x / 4294967296 * (y % 4294967296) = B at *
  generalize x % 4294967296 * (y % 4294967296) = C at *
  generalize x % 4294967296 * (y / 4294967296) = D at *
  have t1 : (C % 18446744073709551616).tdiv 4294967296 = C / 4294967296 := by rw [Int.tdiv_eq_ediv_of_nonneg (by omega)]; omega
  rw [t1]
  have t2 : (B % 18446744073709551616 + C / 4294967296 % 18446744073709551616) % 18446744073709551616 = B + C / 4294967296 := by omega
  rw [t2, Int.tdiv_eq_ediv_of_nonneg (by omega : 0 ≤ B + C / 4294967296), Int.tmod_eq_emod_of_nonneg (by omega : 0 ≤ B + C / 4294967296)]
  have t3 : (D % 18446744073709551616 + (B + C / 4294967296) % 4294967296) % 18446744073709551616 = D + (B + C / 4294967296) % 4294967296 := by omega
  rw [t3, Int.tdiv_eq_ediv_of_nonneg (by omega : 0 ≤ D + (B + C / 4294967296) % 4294967296), Int.tmod_eq_emod_of_nonneg (by omega : 0 ≤ D + (B + C / 4294967296) % 4294967296), Int.tmod_eq_emod_of_nonneg (by omega : 0 ≤ C % 18446744073709551616)]
  congr 1
  refine Prod.ext ?_ ?_
  · show _ = (A * 18446744073709551616 + (B + D) * 4294967296 + C) / 18446744073709551616
    omega
  · show _ = (A * 18446744073709551616 + (B + D) * 4294967296 + C) % 18446744073709551616
    omega
/-- is a number's square (or cube) no more than the bound's multiple? -/
def okL (p : Nat) (cube : Bool) (y : Nat) : Bool := match cube with
  | true => decide (y * y * y ≤ p * 79228162514264337593543950336)
  | false => decide (y * y ≤ p * 18446744073709551616)
/-- the search by halves -/
def rootL (p : Nat) (cube : Bool) : Nat → Nat → Nat
  | 0, x => x
  | n + 1, x => rootL p cube n (if okL p cube (x + 2 ^ n) = true then x + 2 ^ n else x)
theorem above_f (y p : Nat) (hy : y < 18446744073709551616) : sha_above.f y p = some (!okL p false y) := by
  unfold sha_above.f
  rw [mul64_f y y (by omega) (by omega) (by omega) (by omega)]
  simp only [Option.bind_some, okL]
  rw [show ((y : Int) * (y : Int)) = ((y * y : Nat) : Int) from by simp]
  generalize y * y = Y
  by_cases h1 : (Y : Int) / 18446744073709551616 > p
  · rw [if_pos h1]; simp; omega
  · rw [if_neg h1]
    by_cases h2 : (Y : Int) / 18446744073709551616 = p
    · rw [if_pos h2]; congr 1; rw [← decide_not]; exact decide_eq_decide.2 (by omega)
    · rw [if_neg h2]; simp; omega
theorem below_f (y p : Nat) (hy : y < 18446744073709551616) : strongroomref02_below.f y p = some (okL p false y) := by
  unfold strongroomref02_below.f
  rw [prod64_f y y (by omega) (by omega) (by omega) (by omega)]
  simp only [Option.bind_some, okL]
  rw [show ((y : Int) * (y : Int)) = ((y * y : Nat) : Int) from by simp]
  generalize y * y = Y
  by_cases h1 : (Y : Int) / 18446744073709551616 < p
  · rw [if_pos h1]; simp; omega
  · rw [if_neg h1]
    by_cases h2 : (Y : Int) / 18446744073709551616 = p
    · rw [if_pos h2]; congr 1; rw [Bool.eq_iff_iff]; simp; omega
    · rw [if_neg h2]; simp; omega
/-- the cube in three words -/
theorem cube_words (y : Nat) (hy : y < 17592186044416) : ∃ hi lo top mid up low : Nat, y * y = hi * 18446744073709551616 + lo ∧ lo < 18446744073709551616 ∧ hi < 16777216 ∧
    hi * y = top * 18446744073709551616 + mid ∧ mid < 18446744073709551616 ∧ top < 16 ∧ lo * y = up * 18446744073709551616 + low ∧ low < 18446744073709551616 ∧ up < 17592186044416 ∧ y * y * y = (top * 18446744073709551616 + mid + up) * 18446744073709551616 + low := by
  have h1 : y * y ≤ 17592186044415 * 17592186044415 := Nat.mul_le_mul (by omega) (by omega)
  have h2 : y * y / 18446744073709551616 * y ≤ 16777215 * 17592186044415 := Nat.mul_le_mul (by omega) (by omega)
  have h3 : y * y % 18446744073709551616 * y ≤ 18446744073709551615 * 17592186044415 := Nat.mul_le_mul (by omega) (by omega)
  have h4 : y * y * y = y * y / 18446744073709551616 * y * 18446744073709551616 + y * y % 18446744073709551616 * y := by
    conv => lhs; rw [show y * y = y * y / 18446744073709551616 * 18446744073709551616 + y * y % 18446744073709551616 from by omega]
    rw [Nat.add_mul, Nat.mul_right_comm]
  refine ⟨y * y / 18446744073709551616, y * y % 18446744073709551616, y * y / 18446744073709551616 * y / 18446744073709551616, y * y / 18446744073709551616 * y % 18446744073709551616, y * y % 18446744073709551616 * y / 18446744073709551616, y * y % 18446744073709551616 * y % 18446744073709551616, by omega, by omega, by omega, ?_, ?_, ?_, ?_, ?_, ?_, ?_⟩
  all_goals (generalize y * y / 18446744073709551616 * y = u at *; generalize y * y % 18446744073709551616 * y = v at *)
  · omega
  · omega
  · omega
  · omega
  · omega
  · omega
  · rw [h4]; omega
theorem cubeBelow_f (y p : Nat) (hy : y < 17592186044416) (hp : p < 4294967296) : strongroomref02_cubeBelow.f y p = some (okL p true y) := by
  obtain ⟨hi, lo, top, mid, up, low, e1, b1, b2, e2, b3, b6, e3, b4, b5, e4⟩ := cube_words y hy
  unfold strongroomref02_cubeBelow.f
  rw [prod64_f y y (by omega) (by omega) (by omega) (by omega)]
  simp only [Option.bind_some, okL]
  rw [e4, show ((y : Int) * (y : Int)) = ((y * y : Nat) : Int) from by simp, e1]
  rw [show (((hi * 18446744073709551616 + lo : Nat) : Int) % 18446744073709551616) = (lo : Int) from by omega, show (((hi * 18446744073709551616 + lo : Nat) : Int) / 18446744073709551616) = (hi : Int) from by omega]
  rw [prod64_f lo y (by omega) (by omega) (by omega) (by omega)]
  simp only [Option.bind_some]
  rw [prod64_f hi y (by omega) (by omega) (by omega) (by omega)]
  simp only [Option.bind_some]
  rw [show ((lo : Int) * (y : Int)) = ((lo * y : Nat) : Int) from by simp, e3, show ((hi : Int) * (y : Int)) = ((hi * y : Nat) : Int) from by simp, e2]
  simp only [IntKind.wrap_u64]
  rw [show (((top * 18446744073709551616 + mid : Nat) : Int) % 18446744073709551616) = (mid : Int) from by omega, show (((top * 18446744073709551616 + mid : Nat) : Int) / 18446744073709551616) = (top : Int) from by omega,
    show (((up * 18446744073709551616 + low : Nat) : Int) % 18446744073709551616) = (low : Int) from by omega, show (((up * 18446744073709551616 + low : Nat) : Int) / 18446744073709551616) = (up : Int) from by omega]
  by_cases h0 : (top : Int) > 0
  · rw [if_pos h0]; simp; omega
  rw [if_neg h0]
  by_cases h3 : (mid : Int) > (18446744073709551615 - (up : Int)) % 18446744073709551616
  · rw [if_pos h3]; simp; omega
  rw [if_neg h3]
  by_cases h1 : ((mid : Int) + (up : Int)) % 18446744073709551616 < ((p : Int) * 4294967296) % 18446744073709551616
  · rw [if_pos h1]; simp; omega
  · rw [if_neg h1]
    by_cases h2 : ((mid : Int) + (up : Int)) % 18446744073709551616 = ((p : Int) * 4294967296) % 18446744073709551616
    · rw [if_pos h2]; congr 1; rw [Bool.eq_iff_iff]; simp; omega
    · rw [if_neg h2]; simp; omega
/-- the greedy search stays below what its bits allow, and far numbers are never taken -/
theorem okL_far (p y : Nat) (hp : p < 4294967296) (hy : 8796093022208 ≤ y) : okL p true y = false := by
  have h1 : 8796093022208 * 8796093022208 * 8796093022208 ≤ y * y * y := Nat.mul_le_mul (Nat.mul_le_mul hy hy) hy
  simp only [okL]
  exact decide_eq_false (by omega)
theorem rootL_far (p : Nat) (hp : p < 4294967296) : rootL p true 49 0 = rootL p true 43 0 := by
  have h : ∀ n, 43 ≤ n → okL p true (0 + 2 ^ n) = false := fun n hn => okL_far p _ hp (by
    have : (2 : Nat) ^ 43 ≤ 2 ^ n := Nat.pow_le_pow_right (by omega) hn
    simp at this ⊢; omega)
  rw [show (49 : Nat) = 48 + 1 from rfl, rootL, if_neg (by rw [h 48 (by omega)]; simp), rootL, if_neg (by rw [h 47 (by omega)]; simp), rootL, if_neg (by rw [h 46 (by omega)]; simp), rootL, if_neg (by rw [h 45 (by omega)]; simp), rootL, if_neg (by rw [h 44 (by omega)]; simp), rootL, if_neg (by rw [h 43 (by omega)]; simp)]
end Go.Proofs.Ytimcafohmahapaa.F

-- Own
namespace Go.Proofs.Ytimcafohmahapaa.F
open Go Go.RowKit Go.Proofs.YtimcafohmahapaaW.PrintWords Go.Proofs.YtimcafohmahapaaW.PrintLast Go.Proofs.YtimcafohmahapaaW.PrintMore Go.Proofs.YtimcafohmahapaaR
theorem reads_of {A : Option Addr} {n : Nat} {l : List Int} {w : World} {k : IntKind} (h : Kd.C (Kd.int k) w A n l) : ReadsInt w k A n l :=
  Kd.reads_of_C (enc := Value.int k) (d := (0 : Int)) (h1 := fun _ => rfl) h
theorem C_of {A : Option Addr} {n : Nat} {l : List Int} {w : World} {k : IntKind} (h : ReadsInt w k A n l) : Kd.C (Kd.int k) w A n l :=
  Kd.C_of_reads (d := (0 : Int)) (h1 := fun _ => rfl) h
theorem own_head {w : World} {base : Nat} {e : TypeId} {v : Value} {k : IntKind} {l : List Int} {n : Nat} (h : w.ownsRow base e 1 v n (nums k l)) (hl : 0 < n) :
    ∃ g cap, v = .slice (some ⟨g, 0, none⟩) n cap ∧ base ≤ g ∧ g < w.heap.size ∧ n ≤ cap := by
  obtain ⟨_, ⟨_, h0⟩ | ⟨g, cap, cur, rfl, hb, hg, hc, _⟩⟩ := h
  · omega
  · exact ⟨g, cap, rfl, hb, (Array.getElem?_eq_some_iff.1 hg).1, hc⟩
/-- a row of the call's own may be read like one that came in -/
theorem own_C {w : World} {base n : Nat} {e : TypeId} {k : IntKind} {v : Value} {l : List Int} (h : w.ownsRow base e 1 v n (nums k l)) : ∃ A c, v = .slice A n c ∧ l.length = n ∧ n ≤ c ∧ Kd.C (Kd.int k) w A n l := by
  have hl : l.length = n := by have := h.1; simp [nums] at this; exact this
  obtain ⟨A, c, rfl, hr⟩ := own_reads h
  refine ⟨A, c, rfl, hl, own_le h, C_of hr⟩
theorem own_atN {W : World} {base g n cap : Nat} {e : TypeId} {k : IntKind} {xs : List Int} (h : W.ownsRow base e 1 (.slice (some ⟨g, 0, none⟩) n cap) n (nums k xs)) (i : Nat) (hi : i < n) :
    W.cell? ⟨g, i, none⟩ = some (.int k (xs.getD i 0)) ∧ W.frozen? ⟨g, i, none⟩ = false := by
  have := own_at h (i : Int) (by omega) (by omega)
  simpa [rd] using this
end Go.Proofs.Ytimcafohmahapaa.F

-- Upd
namespace Go.Proofs.Ytimcafohmahapaa.F
open Go Go.RowKit Go.Proofs.YtimcafohmahapaaW.PrintWords Go.Proofs.YtimcafohmahapaaW.PrintLast Go.Proofs.YtimcafohmahapaaW.PrintMore Go.Proofs.YtimcafohmahapaaR
set_option linter.unusedSimpArgs false
set_option linter.unusedVariables false
/-- all but the blocks of S stays -/
structure Upd (S : Nat → Prop) (w w' : World) : Prop where
  os : w'.os = w.os
  tape : w'.tape = w.tape
  output : w'.output = w.output
  size : w.heap.size ≤ w'.heap.size
  block : ∀ k, k < w.heap.size → ¬ S k → w'.heap[k]? = w.heap[k]?
theorem Upd.refl (S : Nat → Prop) (w : World) : Upd S w w := ⟨rfl, rfl, rfl, Nat.le_refl _, fun _ _ _ => rfl⟩
theorem Upd.of_grew {S : Nat → Prop} {w w' : World} (h : Grew w w') : Upd S w w' := ⟨h.os, h.tape, h.output, h.size, fun k hk _ => h.block k hk⟩
theorem Upd.then_ {S S2 : Nat → Prop} {a b c : World} (h : Upd S a b) (k : Upd S2 b c) (hs : ∀ i, i < a.heap.size → S2 i → S i) : Upd S a c :=
  ⟨k.os.trans h.os, k.tape.trans h.tape, k.output.trans h.output, Nat.le_trans h.size k.size, fun i hi hn => (k.block i (Nat.lt_of_lt_of_le hi h.size) (fun h2 => hn (hs i hi h2))).trans (h.block i hi hn)⟩
theorem Upd.trans {S : Nat → Prop} {a b c : World} (h : Upd S a b) (k : Upd S b c) : Upd S a c := h.then_ k fun _ _ h => h
theorem Upd.mono {S S2 : Nat → Prop} {a b : World} (h : Upd S a b) (hs : ∀ i, i < a.heap.size → S i → S2 i) : Upd S2 a b :=
  ⟨h.os, h.tape, h.output, h.size, fun i hi hn => h.block i hi (fun h2 => hn (hs i hi h2))⟩
theorem Upd.grew {S : Nat → Prop} {a b : World} (h : Upd S a b) (hs : ∀ i, i < a.heap.size → ¬ S i) : Grew a b := ⟨h.os, h.tape, h.output, h.size, fun i hi => h.block i hi (hs i hi)⟩
theorem Upd.below {S : Nat → Prop} {a b : World} {B : Nat} (h : Upd S a b) (hB : B ≤ a.heap.size) (hs : ∀ i, S i → B ≤ i) : Below B a b :=
  ⟨h.os, h.tape, h.output, h.size, fun i hi => h.block i (Nat.lt_of_lt_of_le hi hB) (fun h2 => by have := hs i h2; omega)⟩
theorem Upd.set {S : Nat → Prop} {a b : World} (h : Upd S a b) {p : Addr} (hp : S p.block ∨ a.heap.size ≤ p.block) (u : Value) : Upd S a (b.setCell p u) :=
  ⟨h.os, h.tape, h.output, by simp [World.setCell]; exact h.size, fun i hi hn => by
    rw [Below.heap_setCell b p u i (fun e => by subst e; rcases hp with hp | hp; exact hn hp; omega)]
    exact h.block i hi hn⟩
theorem Upd.kept {S : Nat → Prop} {a b : World} (h : Upd S a b) : Kept a b S := ⟨h.size, fun i hi hn => h.block i hi hn⟩
theorem Upd.blk {S : Nat → Prop} {a b : World} {g : Nat} {o : Obj} (h : Upd S a b) (hb : a.heap[g]? = some o) (hn : ¬ S g) : b.heap[g]? = some o := (h.block g (blk_lt hb) hn).trans hb
theorem Upd.cell {S : Nat → Prop} {a b : World} {p : Addr} {v : Value} (h : Upd S a b) (hb : a.cell? p = some v) (hn : ¬ S p.block) : b.cell? p = some v := cell_kept hb h.kept hn
theorem Upd.grown {S : Nat → Prop} {a b c : World} {row : Option Nat} (h : Upd S a b) (hg : b.grownBy c row) (hr : ∀ k, row = some k → S k ∨ a.heap.size ≤ k) : Upd S a c :=
  ⟨hg.os.trans h.os, hg.tape.trans h.tape, hg.output.trans h.output, Nat.le_trans h.size hg.size, fun i hi hn => (hg.block i (Nat.lt_of_lt_of_le hi h.size) (fun e => by rcases hr i e.symm with h2 | h2; exact hn h2; omega)).trans (h.block i hi hn)⟩
theorem Upd.own {S : Nat → Prop} {w w1 : World} {base : Nat} {e : TypeId} {size n : Nat} {v : Value} {xs : List Value} (hu : Upd S w w1) (h : w.ownsRow base e size v n xs) (hn : ∀ k, v.ownBlock = some k → ¬ S k) : w1.ownsRow base e size v n xs :=
  own_move h fun k hk => hu.block k (own_lt h k hk) (hn k hk)
/-- what a call comes to: what it returns, and which blocks it may change -/
def Does (S : Nat → Prop) (w : World) (V : World → Value → Prop) (e : Ending) (w' : World) : Prop := ∃ v, e = .returned v ∧ V w' v ∧ Upd S w w'
/-- a block known whole: its cells -/
def Blk (w : World) (g : Nat) (t : TypeId) (cs : List Value) : Prop := w.heap[g]? = some (.cells cs.toArray t (0, 0))
theorem Blk.lt {w : World} {g : Nat} {t : TypeId} {cs : List Value} (h : Blk w g t cs) : g < w.heap.size := blk_lt h
theorem Blk.at_ {w : World} {g : Nat} {t : TypeId} {cs : List Value} (h : Blk w g t cs) (i : Nat) : w.cell? ⟨g, i, none⟩ = cs[i]? := by
  rw [blk_cell h]; simp
theorem Blk.fz {w : World} {g : Nat} {t : TypeId} {cs : List Value} (h : Blk w g t cs) (i : Nat) : w.frozen? ⟨g, i, none⟩ = false := blk_frozen h i
theorem Blk.set {w : World} {g : Nat} {t : TypeId} {cs : List Value} (h : Blk w g t cs) (i : Nat) (u : Value) : Blk (w.setCell ⟨g, i, none⟩ u) g t (cs.set i u) := by
  have := blk_set h i u
  unfold Blk
  rw [this]; simp
theorem Blk.far {w : World} {g : Nat} {t : TypeId} {cs : List Value} (h : Blk w g t cs) {p : Addr} (hp : g ≠ p.block) (u : Value) : Blk (w.setCell p u) g t cs := blk_far h hp u
theorem Blk.upd {S : Nat → Prop} {w w' : World} {g : Nat} {t : TypeId} {cs : List Value} (h : Blk w g t cs) (hu : Upd S w w') (hn : ¬ S g) : Blk w' g t cs := hu.blk h hn
theorem Blk.grew {w w' : World} {g : Nat} {t : TypeId} {cs : List Value} (h : Blk w g t cs) (hu : Grew w w') : Blk w' g t cs := blk_below h hu
theorem Blk.new (w : World) (t : TypeId) (cs : List Value) : Blk (w.alloc (.cells cs.toArray t)) w.heap.size t cs := blk_new w _
/-- a block of numbers reads as a row -/
theorem Blk.own {w : World} {base g : Nat} {t : TypeId} {k : IntKind} {xs : List Int} {n : Nat} (h : Blk w g t (nums k xs)) (hb : base ≤ g) (hn : n ≤ xs.length) (hm : xs.length ≤ 9223372036854775807) : w.ownsRow base t 1 (.slice (some ⟨g, 0, none⟩) n xs.length) n (nums k (xs.take n)) := by
  refine ⟨by simp [nums, Nat.min_eq_left hn], .inr ⟨g, xs.length, (nums k xs).toArray, rfl, hb, h, hn, by simpa [maxLen] using hm, by simp [nums], ?_⟩⟩
  simp [nums, List.map_take]
theorem Blk.reads {w : World} {g : Nat} {t : TypeId} {k : IntKind} {xs : List Int} (h : Blk w g t (nums k xs)) (hm : xs.length ≤ 9223372036854775807) : ReadsInt w k (some ⟨g, 0, none⟩) xs.length xs :=
  ⟨rfl, hm, fun _ => ⟨_, rfl, fun i hi => by rw [add_plain, h.at_]; simp [nums, hi, List.getD_eq_getElem?_getD]⟩⟩
theorem Blk.C {w : World} {g : Nat} {t : TypeId} {k : IntKind} {xs : List Int} (h : Blk w g t (nums k xs)) (hm : xs.length ≤ 9223372036854775807) : Kd.C (Kd.int k) w (some ⟨g, 0, none⟩) xs.length xs := C_of (h.reads hm)
/-- what an append leaves: a row of one's own, in the block it had or in a new one -/
def Appended {α : Type} (enc : α → Value) (base : Nat) (e : TypeId) (v : Value) (xs : List α) (W : World) (v1 : Value) (w1 : World) : Prop :=
  w1.ownsRow base e 1 v1 xs.length (encs enc xs) ∧ W.grownBy w1 v.ownBlock ∧ (v1.ownBlock = v.ownBlock ∨ v1.ownBlock = some W.heap.size)
theorem app_row {P : Program} {α : Type} (enc : α → Value) (d : α) (h1 : ∀ x : α, (enc x).oneCell' = true) (W : World) (base : Nat) (t e ty : TypeId) (z : Value) (bytes : Nat)
    (ht : P.underlying t = some (.slice e)) (hinfo : (P.info? e).map (fun i => (i.zero, i.size, i.bytes)) = some (some z, 1, bytes)) (hz : z.cells.size = 1) (hb0 : 0 < bytes)
    (v : Value) (xs ys : List α) (A : Option Addr) (m c : Nat) (HO : W.ownsRow base e 1 v xs.length (encs enc xs)) (HR : ReadsOf enc d W A m ys) (hbase : base ≤ W.heap.size) (hl : (xs.length + m) * bytes ≤ 140737488355328) :
    ∃ v1 w1, (Builtin.append_ #[t, t] ty #[v, .slice A m c]).run P W = .ok v1 w1 ∧ Appended enc base e v (xs ++ ys) W v1 w1 := by
  obtain ⟨i0, hi, hzz⟩ := Option.map_eq_some_iff.1 hinfo
  simp only [Prod.mk.injEq] at hzz
  obtain ⟨hz0, hz1, hz2⟩ := hzz
  have hm : ys.length = m := HR.1
  have hlen : xs.length + m ≤ 140737488355328 := Nat.le_trans (Nat.le_mul_of_pos_right _ hb0) hl
  rcases Nat.eq_zero_or_pos m with h0 | hpos
  · subst h0
    obtain rfl : ys = [] := List.eq_nil_of_length_eq_zero hm
    refine ⟨v, W, ?_, by simpa using HO, World.grownBy.refl W _, .inl rfl⟩
    have hld : ∀ ad : Addr, (loadCells ad 0).run P W = .ok #[] W := fun ad => by simpa using run_loadCells_list (P := P) W ad [] (by simp)
    rcases HO.2 with ⟨rfl, hn⟩ | ⟨g, cap, cur, rfl, _, _, hnc, _⟩
    · cases A <;> simp [Builtin.append_, run_underlying ht, sizeOf, typeInfo, hi, Builtin.lenOf, Builtin.firstCells, hld]
    · cases A <;> simp [Builtin.append_, run_underlying ht, sizeOf, typeInfo, hi, Builtin.lenOf, Builtin.firstCells, hnc, storeCells, hld]
  · obtain ⟨ad, rfl, hc⟩ := HR.2.2 hpos
    have hcells : ∀ j u, (encs enc ys)[j]? = some u → W.cell? (ad.add j) = some u := by
      intro j u hu
      have hj : j < ys.length := by
        rcases Nat.lt_or_ge j ys.length with h | h
        · exact h
        · simp [encs, List.getElem?_eq_none h] at hu
      rw [encs_get (d := d) ys j hj] at hu
      rw [← hu]
      exact hc j (by omega)
    obtain ⟨v1, w1, hr, h2, h3, _, h5⟩ := run_append_own_at (P := P) W base t ty e i0 z 1 bytes ht hi hz0 hz1 hz2 hz (by omega) v xs.length (encs enc xs) HO ad m c (encs enc ys) (by simp [encs, hm]) hcells
      (by intro u hu; simp only [encs, List.mem_map] at hu; obtain ⟨q, _, rfl⟩ := hu; exact h1 q) (by simp only [maxLen]; omega) hl hbase
    exact ⟨v1, w1, hr, by simpa [encs, hm] using h2, h3, h5⟩
theorem app_num {P : Program} {k : IntKind} (W : World) (base : Nat) (t e ty : TypeId) (bytes : Nat)
    (ht : P.underlying t = some (.slice e)) (hinfo : (P.info? e).map (fun i => (i.zero, i.size, i.bytes)) = some (some (.int k 0), 1, bytes)) (hb0 : 0 < bytes)
    (v : Value) (xs ys : List Int) (A : Option Addr) (m c : Nat) (HO : W.ownsRow base e 1 v xs.length (nums k xs)) (HR : ReadsInt W k A m ys) (hbase : base ≤ W.heap.size) (hl : (xs.length + m) * bytes ≤ 140737488355328) :
    ∃ v1 w1, (Builtin.append_ #[t, t] ty #[v, .slice A m c]).run P W = .ok v1 w1 ∧ Appended (Value.int k) base e v (xs ++ ys) W v1 w1 :=
  app_row (Value.int k) 0 (fun _ => rfl) W base t e ty (.int k 0) bytes ht hinfo rfl hb0 v xs ys A m c HO HR hbase hl
theorem Appended.upd {α : Type} {enc : α → Value} {base : Nat} {e : TypeId} {v v1 : Value} {xs : List α} {W w1 : World} (h : Appended enc base e v xs W v1 w1) : Upd (fun k => v.ownBlock = some k) W w1 :=
  (Upd.refl _ W).grown h.2.1 fun k hk => .inl hk
/-- a row of one's own, cut short -/
theorem own_take {w : World} {base n m cap size : Nat} {e : TypeId} {A : Option Addr} {xs : List Value} (h : w.ownsRow base e size (.slice A n cap) n xs) (hm : m ≤ n) : w.ownsRow base e size (.slice A m cap) m (xs.take (m * size)) := by
  obtain ⟨hl, h⟩ := h
  refine ⟨by rw [List.length_take, hl]; exact Nat.min_eq_left (Nat.mul_le_mul_right _ hm), ?_⟩
  rcases h with ⟨hv, hn⟩ | ⟨g, cap', cur, hv, hb, hh, hnc, hcm, hcs, htake⟩
  · injection hv with h1 h2 h3
    subst h1 h3
    obtain rfl : m = 0 := by omega
    exact .inl ⟨rfl, rfl⟩
  · injection hv with h1 h2 h3
    subst h1 h3
    refine .inr ⟨g, cap, cur, rfl, hb, hh, by omega, hcm, hcs, ?_⟩
    rw [← htake, List.take_take, Nat.min_eq_left (Nat.mul_le_mul_right _ hm)]
/-- a slice of one element in a block of its own, which is not the row that is written -/
def One (e : TypeId) (x : Value) (vb : Value) : World → Value → Prop := fun w v => ∃ g1, v = .slice (some ⟨g1, 0, none⟩) 1 1 ∧ Blk w g1 e [x] ∧ some g1 ≠ vb.ownBlock
/-- the row behind an append -/
def AppV (base : Nat) (e : TypeId) (cs : List Value) (n : Nat) (vb : Value) (N : Nat) : World → Value → Prop := fun w v => w.ownsRow base e 1 v n cs ∧ (v.ownBlock = vb.ownBlock ∨ ∃ k, v.ownBlock = some k ∧ N ≤ k)
theorem eval_tmp {a : Act} {t : Tmp} {v : Value} (h : a.tmps[t]?.getD undef = v) : a.eval (.tmp t) = v := by simpa [Act.eval] using h
/-- append as one operation, by the equation of its run -/
theorem wp_app {P : Program} {o : Oper} {a : Act} {w : World} {K : Act → World → Prop} {Q : Exit → Act → World → Prop} (s x : Operand) (t : TypeId)
    (ho : o.op = .call { callee := .builtin .append, args := #[s, x], argTypes := #[t, t] }) {v y : Value} (hs : a.eval s = v) (hx : a.eval x = y) {v1 : Value} {w1 : World}
    (hr : (Builtin.append_ #[t, t] o.type #[v, y]).run P w = .ok v1 w1) (h : K (a.put o.dst v1) w1) : Oper.wp P o a w K Q := by
  unfold Oper.wp execOp
  simp only [ho, resolve, invoke, builtin, Sem.run_bind, Sem.run_pure, Result.andThen_ok, List.map_toArray, List.map_cons, List.map_nil, hs, hx, hr]
  exact h
theorem wpList_app {P : Program} {ops : Array Oper} {rest : List Oper} {o : Oper} {a : Act} {w : World} {Q : Exit → Act → World → Prop} (hgd : o.guard = none) (s x : Operand) (t : TypeId)
    (ho : o.op = .call { callee := .builtin .append, args := #[s, x], argTypes := #[t, t] }) {v y : Value} (hs : a.eval s = v) (hx : a.eval x = y) {v1 : Value} {w1 : World}
    (hr : (Builtin.append_ #[t, t] o.type #[v, y]).run P w = .ok v1 w1) (h : wpList P ops Q rest (a.put o.dst v1) w1) : wpList P ops Q (o :: rest) a w :=
  wpList_plain hgd fun K hK => wp_app s x t ho hs hx hr (hK _ _ h)
theorem Upd.of_grown {w w' : World} {row : Option Nat} (h : w.grownBy w' row) : Upd (fun k => row = some k) w w' := (Upd.refl _ w).grown h fun k hk => .inl hk
theorem add_block (a : Addr) (j : Nat) : (a.add j).block = a.block := by unfold Addr.add; split <;> rfl
/-- a row that is read stays, if what changes lies elsewhere -/
theorem C_upd {S : Nat → Prop} {w w' : World} {k : IntKind} {A : Option Addr} {n : Nat} {xs : List Int} (h : Kd.C (Kd.int k) w A n xs) (hu : Upd S w w') (hA : ∀ ad, A = some ad → ¬ S ad.block) : Kd.C (Kd.int k) w' A n xs := by
  obtain ⟨h1, h2, h3⟩ := reads_of h
  refine C_of ⟨h1, h2, fun hp => ?_⟩
  obtain ⟨ad, rfl, hc⟩ := h3 hp
  exact ⟨ad, rfl, fun j hj => hu.cell (hc j hj) (by rw [add_block]; exact hA ad rfl)⟩
end Go.Proofs.Ytimcafohmahapaa.F

-- F57
namespace Go.Proofs.Ytimcafohmahapaa.F
open Go.RowKit Go.Proofs.YtimcafohmahapaaW.PrintWords Go.Proofs.YtimcafohmahapaaW.PrintLast Go.Proofs.YtimcafohmahapaaW.PrintMore
attribute [local go_sem] max2_int min2_int max_two min_two max_three min_three max_four min_four   -- for this text's walks alone
set_option linter.unusedVariables false
set_option linter.unusedSimpArgs false

/-! ### strongroomref02_Root: function 57 -/
mutual
def strongroomref02_Root.j0 : Nat → Int → Bool → Int → Int → Option (Int)
  | 0, _, _, _, _ => none
  | k + 1, x0, x1, x5, x6 => strongroomref02_Root.l0 k x0 x1 x5 x6
def strongroomref02_Root.l0 : Nat → Int → Bool → Int → Int → Option (Int)
  | 0, _, _, _, _ => none
  | k + 1, x0, x1, x5, x6 => if x6 > 0 then (if x1 = true then ((strongroomref02_cubeBelow.f (IntKind.u64.wrap (x5 + x6)) (IntKind.u64.wrap (x0))).bind fun t277 => (if t277 = true then (strongroomref02_Root.l0 k x0 x1 (IntKind.u64.wrap (x5 + x6)) (IntKind.u64.wrap (Int.tdiv x6 2))) else (strongroomref02_Root.l0 k x0 x1 x5 (IntKind.u64.wrap (Int.tdiv x6 2))))) else ((strongroomref02_below.f (IntKind.u64.wrap (x5 + x6)) (IntKind.u64.wrap (x0))).bind fun t278 => (if t278 = true then (strongroomref02_Root.l0 k x0 x1 (IntKind.u64.wrap (x5 + x6)) (IntKind.u64.wrap (Int.tdiv x6 2))) else (strongroomref02_Root.l0 k x0 x1 x5 (IntKind.u64.wrap (Int.tdiv x6 2)))))) else (some ((Int.tmod x5 4294967296) % 4294967296))
end
def strongroomref02_Root.f (k : Nat) (a0 : Int) (a1 : Bool) : Option (Int) := if a1 = true then (strongroomref02_Root.j0 k a0 a1 0 4398046511104) else (strongroomref02_Root.j0 k a0 a1 0 281474976710656)
set_option maxHeartbeats 8000000 in
set_option maxRecDepth 100000 in
theorem strongroomref02_Root.calls (k : Nat) (a0 : Int) (a1 : Bool) (r : Int) (w : World) (h : strongroomref02_Root.f k a0 a1 = some r) :
    Calls Try.prog 57 #[.int .u32 a0, .bool a1] w fun e w' => e = .returned (.int .u32 r) ∧ Drawn0 w w' := by
  have H : (if a1 = true then (strongroomref02_Root.j0 k a0 a1 0 4398046511104) else (strongroomref02_Root.j0 k a0 a1 0 281474976710656)) = some r := h
  clear h
  have HC3 := Aside0.mk H
  clear H
  go_enter Try.func57, Try.ntmps57
  go_upto_if 8 with (fail)
  go_cut [6] (fun v6 wc => ∃ (kq : Nat) (x6_2 : Int), v6 = .int .u64 x6_2 ∧ Aside0 (strongroomref02_Root.j0 kq a0 a1 0 x6_2 = some r) ∧ Aside0 (kq ≤ k) ∧ Drawn0 w wc)
  case first =>
    have H := HC3.out
    clear HC3
    by_cases c4 : a1 = true
    · subst c4
      have H1 : (strongroomref02_Root.j0 k a0 true 0 4398046511104) = some r := by rw [if_pos rfl] at H; exact H
      clear H
      have H := H1
      clear H1
      have H' := Aside0.mk H
      clear H
      go_wp2
      go_meet
      case rel => exact ⟨_, (4398046511104), (by first | rfl | (simp; done) | (simp [*]; done)), H', ⟨by first | omega | exact Nat.le_refl _⟩, by repeat (first | exact Drawn0.refl _ | apply Drawn0.step)⟩
    · replace c4 := Bool.eq_false_iff.mpr c4
      subst c4
      have H1 : (strongroomref02_Root.j0 k a0 false 0 281474976710656) = some r := by rw [if_neg (show ¬ (false = true) by decide)] at H; exact H
      clear H
      have H := H1
      clear H1
      have H' := Aside0.mk H
      clear H
      go_wp2
      go_meet
      case rel => exact ⟨_, (281474976710656), (by first | rfl | (simp; done) | (simp [*]; done)), H', ⟨by first | omega | exact Nat.le_refl _⟩, by repeat (first | exact Drawn0.refl _ | apply Drawn0.step)⟩
  case rest =>
    clear HC3
    try clear p2
    try clear c4
    obtain ⟨kq, x6_2, rfl, HA, HJ2, ⟨mc2, rfl⟩⟩ := hcut
    cases kq with
    | zero => exact absurd HA.out (by simp [strongroomref02_Root.j0])
    | succ kj2 =>
      have H := HA.out
      clear HA
      simp only [strongroomref02_Root.j0] at H
      have H' := Aside0.mk H
      clear H
      go_wp2
      go_loopg [5, 6] kj2 (fun kq v5 v6 w' => ∃ (x5_2 : Int) (x6_2 : Int), v5 = .int .u64 x5_2 ∧ v6 = .int .u64 x6_2 ∧ Aside0 (strongroomref02_Root.l0 kq a0 a1 x5_2 x6_2 = some r) ∧ Aside0 (kq ≤ kj2) ∧ Drawn0 w w')
      case atStart => exact ⟨(0), (x6_2), (by first | rfl | (simp; done) | (simp [*]; done)), (by first | rfl | (simp; done) | (simp [*]; done)), H', ⟨Nat.le_refl _⟩, by repeat (first | exact Drawn0.refl _ | apply Drawn0.step)⟩
      case round =>
        clear H'
        try clear c2
        try clear p2
        try clear c4
        try clear p2
        obtain ⟨x5_2, x6_2, rfl, rfl, HA, HK2, ⟨m2, rfl⟩⟩ := hrel
        cases gk with
        | zero => exact absurd HA.out (by simp [strongroomref02_Root.l0])
        | succ k2 =>
          have H := HA.out
          clear HA
          simp only [strongroomref02_Root.l0] at H
          by_cases c5 : x6_2 > 0
          · rw [if_pos c5] at H
            have c5b0 : decide (0 < x6_2) = true := decide_eq_true c5
            clear c5
            by_cases c6 : a1 = true
            · subst c6
              have H1 : ((strongroomref02_cubeBelow.f (IntKind.u64.wrap (x5_2 + x6_2)) (IntKind.u64.wrap (a0))).bind fun t277 => (if t277 = true then (strongroomref02_Root.l0 k2 a0 true (IntKind.u64.wrap (x5_2 + x6_2)) (IntKind.u64.wrap (Int.tdiv x6_2 2))) else (strongroomref02_Root.l0 k2 a0 true x5_2 (IntKind.u64.wrap (Int.tdiv x6_2 2))))) = some r := by rw [if_pos rfl] at H; exact H
              clear H
              have H := H1
              clear H1
              replace H := Option.bind_eq_some_iff.mp H
              obtain ⟨t277, A70, H⟩ := H
              replace H : (if t277 = true then (strongroomref02_Root.l0 k2 a0 true (IntKind.u64.wrap (x5_2 + x6_2)) (IntKind.u64.wrap (Int.tdiv x6_2 2))) else (strongroomref02_Root.l0 k2 a0 true x5_2 (IntKind.u64.wrap (Int.tdiv x6_2 2)))) = some r := H
              have A7 := Aside0.mk A70
              clear A70
              by_cases c8 : t277 = true
              · subst c8
                have H1 : (strongroomref02_Root.l0 k2 a0 true (IntKind.u64.wrap (x5_2 + x6_2)) (IntKind.u64.wrap (Int.tdiv x6_2 2))) = some r := by rw [if_pos rfl] at H; exact H
                clear H
                have H := H1
                clear H1
                have H' := Aside0.mk H
                clear H
                go_wp2_with (first | ((with_reducible refine gate_callee (f := 65) rfl ?_); refine goesL_ (some 19) rfl rfl Try.func65 (by kernel_rfl) rfl #[.int .u64 (IntKind.u64.wrap (x5_2 + x6_2)), .int .u64 (IntKind.u64.wrap (a0))] rfl (by (try simp only [List.map_toArray, List.map_cons, List.map_nil]); first | done | rfl | (simp only [List.length_drop, List.length_take]; rfl)) ?_; (with_reducible refine (strongroomref02_cubeBelow.calls (IntKind.u64.wrap (x5_2 + x6_2)) (IntKind.u64.wrap (a0)) true _ A7.out).mono ?_); rintro e w' ⟨rfl, ⟨nd, rfl⟩⟩; refine ⟨_, rfl, ?_⟩))
                go_roundg k2
                case measure => have := HJ2.out; have := HK2.out; omega
                case rel => exact ⟨(IntKind.u64.wrap (x5_2 + x6_2)), (IntKind.u64.wrap (Int.tdiv x6_2 2)), (by first | rfl | (simp; done) | (simp [*]; done)), (by first | rfl | (simp; done) | (simp [*]; done)), H', ⟨by have := HJ2.out; have := HK2.out; omega⟩, by repeat (first | exact Drawn0.refl _ | apply Drawn0.step)⟩
              · replace c8 := Bool.eq_false_iff.mpr c8
                subst c8
                have H1 : (strongroomref02_Root.l0 k2 a0 true x5_2 (IntKind.u64.wrap (Int.tdiv x6_2 2))) = some r := by rw [if_neg (show ¬ (false = true) by decide)] at H; exact H
                clear H
                have H := H1
                clear H1
                have H' := Aside0.mk H
                clear H
                go_wp2_with (first | ((with_reducible refine gate_callee (f := 65) rfl ?_); refine goesL_ (some 19) rfl rfl Try.func65 (by kernel_rfl) rfl #[.int .u64 (IntKind.u64.wrap (x5_2 + x6_2)), .int .u64 (IntKind.u64.wrap (a0))] rfl (by (try simp only [List.map_toArray, List.map_cons, List.map_nil]); first | done | rfl | (simp only [List.length_drop, List.length_take]; rfl)) ?_; (with_reducible refine (strongroomref02_cubeBelow.calls (IntKind.u64.wrap (x5_2 + x6_2)) (IntKind.u64.wrap (a0)) false _ A7.out).mono ?_); rintro e w' ⟨rfl, ⟨nd, rfl⟩⟩; refine ⟨_, rfl, ?_⟩))
                go_roundg k2
                case measure => have := HJ2.out; have := HK2.out; omega
                case rel => exact ⟨(x5_2), (IntKind.u64.wrap (Int.tdiv x6_2 2)), (by first | rfl | (simp; done) | (simp [*]; done)), (by first | rfl | (simp; done) | (simp [*]; done)), H', ⟨by have := HJ2.out; have := HK2.out; omega⟩, by repeat (first | exact Drawn0.refl _ | apply Drawn0.step)⟩
            · replace c6 := Bool.eq_false_iff.mpr c6
              subst c6
              have H1 : ((strongroomref02_below.f (IntKind.u64.wrap (x5_2 + x6_2)) (IntKind.u64.wrap (a0))).bind fun t278 => (if t278 = true then (strongroomref02_Root.l0 k2 a0 false (IntKind.u64.wrap (x5_2 + x6_2)) (IntKind.u64.wrap (Int.tdiv x6_2 2))) else (strongroomref02_Root.l0 k2 a0 false x5_2 (IntKind.u64.wrap (Int.tdiv x6_2 2))))) = some r := by rw [if_neg (show ¬ (false = true) by decide)] at H; exact H
              clear H
              have H := H1
              clear H1
              replace H := Option.bind_eq_some_iff.mp H
              obtain ⟨t278, A90, H⟩ := H
              replace H : (if t278 = true then (strongroomref02_Root.l0 k2 a0 false (IntKind.u64.wrap (x5_2 + x6_2)) (IntKind.u64.wrap (Int.tdiv x6_2 2))) else (strongroomref02_Root.l0 k2 a0 false x5_2 (IntKind.u64.wrap (Int.tdiv x6_2 2)))) = some r := H
              have A9 := Aside0.mk A90
              clear A90
              by_cases c10 : t278 = true
              · subst c10
                have H1 : (strongroomref02_Root.l0 k2 a0 false (IntKind.u64.wrap (x5_2 + x6_2)) (IntKind.u64.wrap (Int.tdiv x6_2 2))) = some r := by rw [if_pos rfl] at H; exact H
                clear H
                have H := H1
                clear H1
                have H' := Aside0.mk H
                clear H
                go_wp2_with (first | ((with_reducible refine gate_callee (f := 66) rfl ?_); refine goesL_ (some 25) rfl rfl Try.func66 (by kernel_rfl) rfl #[.int .u64 (IntKind.u64.wrap (x5_2 + x6_2)), .int .u64 (IntKind.u64.wrap (a0))] rfl (by (try simp only [List.map_toArray, List.map_cons, List.map_nil]); first | done | rfl | (simp only [List.length_drop, List.length_take]; rfl)) ?_; (with_reducible refine (strongroomref02_below.calls (IntKind.u64.wrap (x5_2 + x6_2)) (IntKind.u64.wrap (a0)) true _ A9.out).mono ?_); rintro e w' ⟨rfl, ⟨nd, rfl⟩⟩; refine ⟨_, rfl, ?_⟩))
                go_roundg k2
                case measure => have := HJ2.out; have := HK2.out; omega
                case rel => exact ⟨(IntKind.u64.wrap (x5_2 + x6_2)), (IntKind.u64.wrap (Int.tdiv x6_2 2)), (by first | rfl | (simp; done) | (simp [*]; done)), (by first | rfl | (simp; done) | (simp [*]; done)), H', ⟨by have := HJ2.out; have := HK2.out; omega⟩, by repeat (first | exact Drawn0.refl _ | apply Drawn0.step)⟩
              · replace c10 := Bool.eq_false_iff.mpr c10
                subst c10
                have H1 : (strongroomref02_Root.l0 k2 a0 false x5_2 (IntKind.u64.wrap (Int.tdiv x6_2 2))) = some r := by rw [if_neg (show ¬ (false = true) by decide)] at H; exact H
                clear H
                have H := H1
                clear H1
                have H' := Aside0.mk H
                clear H
                go_wp2_with (first | ((with_reducible refine gate_callee (f := 66) rfl ?_); refine goesL_ (some 25) rfl rfl Try.func66 (by kernel_rfl) rfl #[.int .u64 (IntKind.u64.wrap (x5_2 + x6_2)), .int .u64 (IntKind.u64.wrap (a0))] rfl (by (try simp only [List.map_toArray, List.map_cons, List.map_nil]); first | done | rfl | (simp only [List.length_drop, List.length_take]; rfl)) ?_; (with_reducible refine (strongroomref02_below.calls (IntKind.u64.wrap (x5_2 + x6_2)) (IntKind.u64.wrap (a0)) false _ A9.out).mono ?_); rintro e w' ⟨rfl, ⟨nd, rfl⟩⟩; refine ⟨_, rfl, ?_⟩))
                go_roundg k2
                case measure => have := HJ2.out; have := HK2.out; omega
                case rel => exact ⟨(x5_2), (IntKind.u64.wrap (Int.tdiv x6_2 2)), (by first | rfl | (simp; done) | (simp [*]; done)), (by first | rfl | (simp; done) | (simp [*]; done)), H', ⟨by have := HJ2.out; have := HK2.out; omega⟩, by repeat (first | exact Drawn0.refl _ | apply Drawn0.step)⟩
          · rw [if_neg c5] at H
            have c5b0 : decide (0 < x6_2) = false := decide_eq_false c5
            clear c5
            obtain rfl := Option.some.inj H
            go_wp2
            go_ret
            exact ⟨by first | rfl | (simp; done) | (simp [*]; done), by repeat (first | exact Drawn0.refl _ | apply Drawn0.step)⟩

end Go.Proofs.Ytimcafohmahapaa.F

-- ShaP
namespace Go.Proofs.Ytimcafohmahapaa.F
open Go Go.RowKit Go.Proofs.YtimcafohmahapaaW.PrintWords Go.Proofs.YtimcafohmahapaaW.PrintLast Go.Proofs.YtimcafohmahapaaW.PrintMore Go.Proofs.YtimcafohmahapaaR
set_option linter.unusedSimpArgs false
set_option linter.unusedVariables false
set_option maxRecDepth 100000
theorem above_c (y p : Nat) (hy : y < 18446744073709551616) (w : World) :
    Calls Try.prog 62 #[.int .u64 y, .int .u64 p] w (Tells w (Is (.bool (!okL p false y)))) :=
  tells_is ((sha_above.calls y p _ w (above_f y p hy)).mono fun _ _ ⟨h, k⟩ => ⟨h, drawn_below k⟩)
theorem mul64_c (x y : Nat) (hx : x < 18446744073709551616) (hy : y < 18446744073709551616) (w : World) :
    Calls Try.prog 68 #[.int .u64 x, .int .u64 y] w (Tells w (Is (.tuple #[.int .u64 ((x * y / 18446744073709551616 : Nat) : Int), .int .u64 ((x * y % 18446744073709551616 : Nat) : Int)]))) :=
  tells_is ((bits_Mul64.calls x y ((x * y / 18446744073709551616 : Nat) : Int) ((x * y % 18446744073709551616 : Nat) : Int) w (by rw [mul64_f x y (by omega) (by omega) (by omega) (by omega)]; simp)).mono fun _ _ ⟨h, k⟩ => ⟨h, drawn_below k⟩)
theorem add64_run (x y : Nat) (w : World) :
    (callFunc 69 #[.int .u64 x, .int .u64 y, .int .u64 0]).run Try.prog w =
      .ok (.value (.tuple #[.int .u64 (((x + y) % 18446744073709551616 : Nat) : Int), .int .u64 (((x + y) / 18446744073709551616 : Nat) : Int)])) w := by
  rw [run_callFunc_extern Try.func69 (by kernel_rfl) (by kernel_rfl) (by kernel_rfl) (e := add64Entry) (by kernel_rfl), run_add64 x y 0 (by omega) (by omega) (by omega) (by omega)]
  simp only [Result.andThen]
  congr 5 <;> omega
theorem aboveCube_plain (y p : Nat) (hy : y < 17592186044416) (hp : p < 4294967296) : ∃ hi lo top mid up low s c t : Nat, t < 32 ∧ s < 18446744073709551616 ∧ c < 2 ∧ low < 18446744073709551616 ∧ hi < 16777216 ∧ lo < 18446744073709551616 ∧
    y * y / 18446744073709551616 = hi ∧ y * y % 18446744073709551616 = lo ∧ hi * y / 18446744073709551616 = top ∧ hi * y % 18446744073709551616 = mid ∧ lo * y / 18446744073709551616 = up ∧ lo * y % 18446744073709551616 = low ∧
    (mid + up) % 18446744073709551616 = s ∧ (mid + up) / 18446744073709551616 = c ∧ top + c = t ∧ top < 16 ∧
    (okL p true y = false ↔ (0 < t ∨ (t = 0 ∧ (p * 4294967296 < s ∨ (s = p * 4294967296 ∧ 0 < low))))) := by
  obtain ⟨hi, lo, top, mid, up, low, e1, b1, b2, e2, b3, b6, e3, b4, b5, e4⟩ := cube_words y hy
  refine ⟨hi, lo, top, mid, up, low, _, _, _, ?_, ?_, ?_, b4, b2, b1, by omega, by omega, by omega, by omega, by omega, by omega, rfl, rfl, rfl, b6, ?_⟩
  · omega
  · omega
  · omega
  · simp only [okL]; rw [e4]
    rw [decide_eq_false_iff_not]
    clear e1 e2 e3 e4
    omega
set_option maxHeartbeats 1000000 in
theorem aboveCube_c (y p : Nat) (hy : y < 17592186044416) (hp : p < 4294967296) (w : World) :
    Calls Try.prog 61 #[.int .u64 y, .int .u64 p] w (Tells w (Is (.bool (!okL p true y)))) := by
  obtain ⟨hi, lo, top, mid, up, low, s, c, t, ht, hs, hc, hlow, hhi, hlo, e1, e2, e3, e4, e5, e6, e7, e8, e9, b6, hK⟩ := aboveCube_plain y p hy hp
  have m1 := fun w => mul64_c y y (by omega) (by omega) w
  have m2 := fun w => mul64_c hi y (by omega) (by omega) w
  have m3 := fun w => mul64_c lo y (by omega) (by omega) w
  have ad := fun w => add64_run mid up w
  rw [e1, e2] at m1
  rw [e3, e4] at m2
  rw [e5, e6] at m3
  rw [e7, e8] at ad
  have M1 := Lib.hid m1
  have M2 := Lib.hid m2
  have M3 := Lib.hid m3
  obtain ⟨b, hb⟩ : ∃ b, b = okL p true y := ⟨_, rfl⟩
  rw [← hb] at hK ⊢
  have HK := Lib.hid hK
  have q1 : (p : Int) / 4294967296 = 0 := by omega
  have q2 : IntKind.u64.wrap ((top : Int) + (c : Int)) = (t : Int) := by rw [IntWalk.u64_in _ (by omega)]; omega
  obtain ⟨q, hq⟩ : ∃ q : Nat, q = p * 4294967296 := ⟨_, rfl⟩
  have q3 : IntKind.u64.wrap ((p : Int) * 4294967296) = (q : Int) := by rw [IntWalk.u64_in _ (by omega)]; omega
  have HQ := Lib.hid hq
  clear m1 m2 m3 e1 e2 e3 e4 e5 e6 e7 e8 e9 hK hb hq
  go_enter Try.func61, Try.ntmps61
  go_wp2_with fail
  refine (M1.out _).mono ?_
  rintro e w1 ⟨_, rfl, rfl, hg1⟩
  go_wp2_with fail
  refine (M2.out _).mono ?_
  rintro e w2 ⟨_, rfl, rfl, hg2⟩
  go_wp2_with fail
  refine (M3.out _).mono ?_
  rintro e w3 ⟨_, rfl, rfl, hg3⟩
  go_wp2_with (simp only [ad])
  all_goals go_ret
  all_goals refine ⟨_, rfl, ?_, hg1.trans (hg2.trans hg3)⟩
  all_goals show Value.bool _ = Value.bool _
  all_goals (have h := HK.out; have h2 := HQ.out; clear M1 M2 M3 ad HK HQ q1 q2 q3)
  all_goals congr 1
  all_goals (cases b <;> simp at h ⊢ <;> omega)
theorem pow_small (m : Nat) (hm : m < 49) : (2 : Nat) ^ m < 562949953421312 := by
  have h1 : (2 : Nat) ^ m ≤ 2 ^ 48 := Nat.pow_le_pow_right (by omega) (by omega)
  simp at h1; omega
theorem pow_u64 (m : Nat) (hm : m < 49) : IntKind.u64.wrap ((2 : Int) ^ m) = ((2 ^ m : Nat) : Int) := by
  have h := pow_small m hm
  have e : (2 : Int) ^ m = ((2 ^ m : Nat) : Int) := by push_cast; rfl
  rw [e]
  generalize (2 : Nat) ^ m = k at *
  exact IntWalk.u64_in _ (by omega)
theorem or_step (x m : Nat) (hm : m < 49) (hx : x % 2 ^ (m + 1) = 0) (hb : x + 2 ^ (m + 1) ≤ 2 ^ 49) : Go.bits .or .u64 (x : Int) ((2 ^ m : Nat) : Int) = ((x + 2 ^ m : Nat) : Int) := by
  have h1 : (2 : Nat) ^ m < 2 ^ (m + 1) := Nat.pow_lt_pow_right (by omega) (by omega)
  have h3 : x + 2 ^ (m + 1) ≤ 562949953421312 := hb
  have h := (bits_nat .u64 64 (Nat.le_refl _) (fun n h0 h3 => by rw [IntKind.wrap_u64]; omega) x (2 ^ m) (by show x < 18446744073709551616; omega) (by show 2 ^ m < 18446744073709551616; omega)).2
  rw [h]
  obtain ⟨q, rfl⟩ : ∃ q, x = 2 ^ (m + 1) * q := ⟨x / 2 ^ (m + 1), by have := Nat.div_add_mod x (2 ^ (m + 1)); omega⟩
  rw [Nat.two_pow_add_eq_or_of_lt h1]
theorem step_facts (x m : Nat) (hm : m < 49) (hx : x % 2 ^ (m + 1) = 0) (hb : x + 2 ^ (m + 1) ≤ 2 ^ 49) : x % 2 ^ m = 0 ∧ (x + 2 ^ m) % 2 ^ m = 0 ∧ x + 2 ^ m ≤ 2 ^ 49 ∧ x + 2 ^ m + 2 ^ m ≤ 2 ^ 49 ∧ x + 2 ^ m < 562949953421312 := by
  have h1 : (2 : Nat) ^ (m + 1) = 2 * 2 ^ m := by rw [Nat.pow_succ]; omega
  have h2 : (2 : Nat) ^ 49 = 562949953421312 := rfl
  have h3 : x % 2 ^ m = 0 := by
    rw [h1] at hx
    have := Nat.mod_mul_left_mod x 2 (2 ^ m)
    rw [hx] at this; simpa using this.symm
  have h4 : 0 < 2 ^ m := Nat.pos_of_ne_zero (by simp)
  refine ⟨h3, by rw [Nat.add_mod_right]; exact h3, by omega, by omega, by omega⟩
set_option maxHeartbeats 1000000 in
theorem root_c (p : Nat) (hp : p < 4294967296) (cube : Bool) (w : World) :
    Calls Try.prog 51 #[.int .u32 p, .bool cube] w (Tells w (Is (.int .u32 ((rootL p cube 49 0 % 4294967296 : Nat) : Int)))) := by
  obtain ⟨R, hR⟩ : ∃ R, R = rootL p cube 49 0 := ⟨_, rfl⟩
  rw [← hR]
  have HR := Lib.hid hR
  clear hR
  go_enter Try.func51, Try.ntmps51
  go_wp2_with fail
  go_loopw [5, 8] (fun xv iv wr => ∃ (i n x : Nat), iv = .int .i64 (i : Int) ∧ i + n = 49 ∧ xv = .int .u64 (x : Int) ∧ x % 2 ^ n = 0 ∧ x + 2 ^ n ≤ 2 ^ 49 ∧ rootL p cube n x = R ∧ Grew w wr) (fun _ iv _ => 49 - (intOf iv).toNat)
  case atStart => exact ⟨0, 49, 0, rfl, rfl, rfl, rfl, by simp, HR.out.symm, Grew.refl _⟩
  case round =>
    obtain ⟨i, n, x, rfl, hin, rfl, hx, hb, hr, hg⟩ := hrel
    rcases n with _ | m
    · have d1 : decide ((i : Int) < 49) = false := decide_eq_false (by omega)
      have hxR : x = R := hr
      subst hxR
      have hx4 : IntKind.u32.wrap (x : Int) = ((x % 4294967296 : Nat) : Int) := by rw [IntKind.wrap_u32]; omega
      clear hx hb hr hin
      go_wp2_with fail
      go_ret
      exact ⟨_, rfl, by show Value.int _ _ = Value.int _ _; simp, hg⟩
    · have d1 : decide ((i : Int) < 49) = true := decide_eq_true (by omega)
      obtain ⟨f1, f2, f3, f4, f5⟩ := step_facts x m (by omega) hx hb
      have e1 : IntKind.i64.wrap (48 - (i : Int)) = (m : Int) := by rw [IntWalk.i64_in _ (by omega)]; omega
      have e3 := or_step x m (by omega) hx hb
      obtain ⟨k2, hk2⟩ : ∃ k2 : Nat, k2 = 2 ^ m := ⟨_, rfl⟩
      have e2 := pow_u64 m (by omega)
      rw [← hk2] at e2
      rw [← hk2] at e3
      have hi : i < 49 := by omega
      obtain ⟨y, hy⟩ : ∃ y, y = x + k2 := ⟨_, rfl⟩
      have hr2 : rootL p cube m (if okL p cube y = true then y else x) = R := by rw [hy, hk2]; exact hr
      have hyb : y < 562949953421312 := by rw [hy, hk2]; exact f5
      have F := Lib.hid (And.intro f1 (And.intro f2 (And.intro f3 (And.intro f4 f5))))
      have HY := Lib.hid (show y = x + 2 ^ m from by rw [hy, hk2])
      rw [← hy] at e3
      clear f1 f2 f3 f4 f5 hx hb hr hk2 hy
      cases cube
      · go_wp2_with fail
        refine (above_c y p (by omega) wr).mono ?_
        rintro e w2 ⟨_, rfl, rfl, hg2⟩
        cases hok : okL p false y
        all_goals (rw [hok] at hr2; simp only [Bool.not_true, Bool.not_false])
        all_goals clear hok
        · have hr3 : rootL p false m x = R := hr2
          clear hr2
          go_wp2_with fail
          go_roundw
          case rel => exact ⟨i + 1, m, x, by go_num, by omega, rfl, F.out.1, F.out.2.2.1, hr3, hg.trans hg2⟩
          case measure => simp [intOf]; omega
        · have hr3 : rootL p false m y = R := hr2
          clear hr2
          go_wp2_with fail
          go_roundw
          case rel => exact ⟨i + 1, m, y, by go_num, by omega, rfl, by rw [HY.out]; exact F.out.2.1, by rw [HY.out]; exact F.out.2.2.2.1, hr3, hg.trans hg2⟩
          case measure => simp [intOf]; omega

      · by_cases hcy : y < 17592186044416
        · have d2 : decide ((y : Int) < 17592186044416) = true := decide_eq_true (by omega)
          go_wp2_with fail
          refine (aboveCube_c y p hcy hp wr).mono ?_
          rintro e w2 ⟨_, rfl, rfl, hg2⟩
          cases hok : okL p true y
          all_goals (rw [hok] at hr2; simp only [Bool.not_true, Bool.not_false])
          all_goals clear hok
          · have hr3 : rootL p true m x = R := hr2
            clear hr2
            go_wp2_with fail
            go_roundw
            case rel => exact ⟨i + 1, m, x, by go_num, by omega, rfl, F.out.1, F.out.2.2.1, hr3, hg.trans hg2⟩
            case measure => simp [intOf]; omega
          · have hr3 : rootL p true m y = R := hr2
            clear hr2
            go_wp2_with fail
            go_roundw
            case rel => exact ⟨i + 1, m, y, by go_num, by omega, rfl, by rw [HY.out]; exact F.out.2.1, by rw [HY.out]; exact F.out.2.2.2.1, hr3, hg.trans hg2⟩
            case measure => simp [intOf]; omega

        · have d2 : decide ((y : Int) < 17592186044416) = false := decide_eq_false (by omega)
          have hr3 : rootL p true m x = R := by rw [okL_far p y hp (by omega)] at hr2; exact hr2
          clear hr2
          go_wp2_with fail
          go_roundw
          case rel => exact ⟨i + 1, m, x, by go_num, by omega, rfl, F.out.1, F.out.2.2.1, hr3, hg⟩
          case measure => simp [intOf]; omega
/-- the bit that the reference tries when so many are left -/
def bitOf : Nat → Nat
  | 0 => 0
  | m + 1 => 2 ^ m
theorem bitOf_half (m : Nat) (hm : m < 49) : IntKind.u64.wrap (Int.tdiv ((2 ^ m : Nat) : Int) 2) = (bitOf m : Int) := by
  have h := pow_small m hm
  rw [Int.tdiv_eq_ediv_of_nonneg (Int.natCast_nonneg _)]
  cases m with
  | zero => rfl
  | succ n =>
    show _ = ((2 ^ n : Nat) : Int)
    rw [Nat.pow_succ] at h ⊢
    generalize (2 : Nat) ^ n = k at *
    rw [IntWalk.u64_in _ (by omega)]; omega
theorem rroot_l0 (p : Nat) (hp : p < 4294967296) (cube : Bool) : ∀ n k (x : Nat), n < k → n ≤ (if cube then 43 else 49) → x % 2 ^ n = 0 → x + 2 ^ n ≤ 2 ^ (if cube then 43 else 49) →
    strongroomref02_Root.l0 k p cube x (bitOf n) = some ((rootL p cube n x % 4294967296 : Nat) : Int) := by
  intro n
  induction n with
  | zero =>
    intro k x hk hn hx hb
    obtain ⟨k, rfl⟩ : ∃ j, k = j + 1 := ⟨k - 1, by omega⟩
    show strongroomref02_Root.l0 (k + 1) p cube x 0 = some ((x % 4294967296 : Nat) : Int)
    rw [strongroomref02_Root.l0, if_neg (by decide), Int.tmod_eq_emod_of_nonneg (Int.natCast_nonneg _)]
    clear hb hx hn
    congr 1; omega
  | succ m ih =>
    intro k x hk hn hx hb
    obtain ⟨k, rfl⟩ : ∃ j, k = j + 1 := ⟨k - 1, by omega⟩
    have hm : m < 49 := by cases cube <;> simp at hn <;> omega
    have h49 : x + 2 ^ (m + 1) ≤ 2 ^ 49 := by
      refine Nat.le_trans hb ?_
      cases cube <;> simp
    have f3b : x + 2 ^ m + 2 ^ m = x + 2 ^ (m + 1) := by rw [Nat.pow_succ]; omega
    obtain ⟨f1, f2, f3, f4, f5⟩ := step_facts x m hm hx h49
    have hh := bitOf_half m hm
    have hp0 : 0 < 2 ^ m := Nat.pos_of_ne_zero (by simp)
    have hx5 : IntKind.u64.wrap ((x : Int) + ((2 ^ m : Nat) : Int)) = ((x + 2 ^ m : Nat) : Int) := by rw [IntWalk.u64_in _ (by omega)]; simp
    have hp5 : IntKind.u64.wrap (p : Int) = (p : Int) := IntWalk.u64_in _ (by omega)
    have ih1 := ih k x (by omega) (by omega) f1 (by omega)
    have ih2 := ih k (x + 2 ^ m) (by omega) (by omega) f2 (by omega)
    rw [show bitOf (m + 1) = 2 ^ m from rfl]
    simp only [strongroomref02_Root.l0, rootL]
    rw [if_pos (by omega), hx5, hp5, hh]
    cases cube
    · rw [if_neg (by simp), below_f _ _ (by omega)]
      simp only [Option.bind_some]
      split
      · exact ih2
      · exact ih1
    · have h43 : x + 2 ^ (m + 1) ≤ 2 ^ 43 := hb
      have h43' : (2 : Nat) ^ 43 = 8796093022208 := rfl
      rw [if_pos rfl, cubeBelow_f _ _ (by omega) hp]
      simp only [Option.bind_some]
      split
      · exact ih2
      · exact ih1
theorem rroot_f (p : Nat) (hp : p < 4294967296) (cube : Bool) : strongroomref02_Root.f 51 p cube = some ((rootL p cube 49 0 % 4294967296 : Nat) : Int) := by
  unfold strongroomref02_Root.f
  cases cube
  · rw [if_neg (by simp)]
    rw [strongroomref02_Root.j0]
    have h := rroot_l0 p hp false 49 50 0 (by omega) (by simp) (by simp) (by simp)
    rw [show (bitOf 49 : Nat) = 281474976710656 from rfl] at h
    exact h
  · rw [if_pos rfl, rootL_far p hp]
    rw [strongroomref02_Root.j0]
    have h := rroot_l0 p hp true 43 50 0 (by omega) (by simp) (by simp) (by simp)
    rw [show (bitOf 43 : Nat) = 4398046511104 from rfl] at h
    exact h
theorem rroot_c (p : Nat) (hp : p < 4294967296) (cube : Bool) (w : World) :
    Calls Try.prog 57 #[.int .u32 p, .bool cube] w (Tells w (Is (.int .u32 ((rootL p cube 49 0 % 4294967296 : Nat) : Int)))) :=
  tells_is ((strongroomref02_Root.calls 51 p cube _ w (rroot_f p hp cube)).mono fun _ _ ⟨h, k⟩ => ⟨h, drawn_below k⟩)
end Go.Proofs.Ytimcafohmahapaa.F

-- F70
namespace Go.Proofs.Ytimcafohmahapaa.F
open Go.RowKit Go.Proofs.YtimcafohmahapaaW.PrintWords Go.Proofs.YtimcafohmahapaaW.PrintLast Go.Proofs.YtimcafohmahapaaW.PrintMore
attribute [local go_sem] max2_int min2_int max_two min_two max_three min_three max_four min_four   -- for this text's walks alone
set_option linter.unusedVariables false
set_option linter.unusedSimpArgs false

/-! ### bits_RotateLeft32: function 70 -/
def bits_RotateLeft32.f (a0 : Int) (a1 : Int) : Option (Int) := if 0 ≤ (Go.bits .and .u64 (IntKind.u64.wrap (a1)) 31) then (if 0 ≤ (IntKind.u64.wrap (32 - (Go.bits .and .u64 (IntKind.u64.wrap (a1)) 31))) then (some (Go.bits .or .u32 (shl .u32 a0 (Go.bits .and .u64 (IntKind.u64.wrap (a1)) 31)) (shr .u32 a0 (IntKind.u64.wrap (32 - (Go.bits .and .u64 (IntKind.u64.wrap (a1)) 31)))))) else (none)) else (none)
set_option maxHeartbeats 8000000 in
set_option maxRecDepth 100000 in
theorem bits_RotateLeft32.calls (a0 : Int) (a1 : Int) (r : Int) (w : World) (h : bits_RotateLeft32.f a0 a1 = some r) :
    Calls Try.prog 70 #[.int .u32 a0, .int .i64 a1] w fun e w' => e = .returned (.int .u32 r) ∧ Drawn0 w w' := by
  have H : (if 0 ≤ (Go.bits .and .u64 (IntKind.u64.wrap (a1)) 31) then (if 0 ≤ (IntKind.u64.wrap (32 - (Go.bits .and .u64 (IntKind.u64.wrap (a1)) 31))) then (some (Go.bits .or .u32 (shl .u32 a0 (Go.bits .and .u64 (IntKind.u64.wrap (a1)) 31)) (shr .u32 a0 (IntKind.u64.wrap (32 - (Go.bits .and .u64 (IntKind.u64.wrap (a1)) 31)))))) else (none)) else (none)) = some r := h
  clear h
  obtain ⟨ji3, hji3⟩ : ∃ j_ : Int, (Go.bits .and .u64 (IntKind.u64.wrap (a1)) 31) = j_ := ⟨_, rfl⟩
  replace H : (if 0 ≤ (ji3) then (if 0 ≤ (IntKind.u64.wrap (32 - (ji3))) then (some (Go.bits .or .u32 (shl .u32 a0 (ji3)) (shr .u32 a0 (IntKind.u64.wrap (32 - (ji3)))))) else (none)) else (none)) = some r := by first | (rw [hji3] at H; exact H) | (simp only [hji3] at H ⊢; exact H)
  by_cases c4 : 0 ≤ (ji3)
  · rw [if_pos c4] at H
    have c4b0 := eq_true c4
    have c4b1 : decide (0 ≤ (ji3)) = true := decide_eq_true c4
    clear c4
    obtain ⟨ji5, hji5⟩ : ∃ j_ : Int, (shl .u32 a0 (ji3)) = j_ := ⟨_, rfl⟩
    replace H : (if 0 ≤ (IntKind.u64.wrap (32 - (ji3))) then (some (Go.bits .or .u32 (ji5) (shr .u32 a0 (IntKind.u64.wrap (32 - (ji3)))))) else (none)) = some r := by first | (rw [hji5] at H; exact H) | (simp only [hji5] at H ⊢; exact H)
    have hji5_ : (IntKind.u32.wrap (a0 * 2 ^ min (ji3).toNat 32)) = ji5 := hji5
    have hji5z : (ji3) ≤ 32 → (IntKind.u32.wrap (a0 * 2 ^ (ji3).toNat)) = ji5 := shl_small hji5
    obtain ⟨ji6, hji6⟩ : ∃ j_ : Int, (IntKind.u64.wrap (32 - (ji3))) = j_ := ⟨_, rfl⟩
    replace H : (if 0 ≤ (ji6) then (some (Go.bits .or .u32 (ji5) (shr .u32 a0 (ji6)))) else (none)) = some r := by first | (rw [hji6] at H; exact H) | (simp only [hji6] at H ⊢; exact H)
    by_cases c7 : 0 ≤ (ji6)
    · rw [if_pos c7] at H
      have c7b0 := eq_true c7
      have c7b1 : decide (0 ≤ (ji6)) = true := decide_eq_true c7
      clear c7
      obtain ⟨ji8, hji8⟩ : ∃ j_ : Int, (shr .u32 a0 (ji6)) = j_ := ⟨_, rfl⟩
      replace H : (some (Go.bits .or .u32 (ji5) (ji8))) = some r := by first | (rw [hji8] at H; exact H) | (simp only [hji8] at H ⊢; exact H)
      have hji8_ : (a0 / 2 ^ min (ji6).toNat 32) = ji8 := hji8
      have hji8z : (ji6) ≤ 32 → (a0 / 2 ^ (ji6).toNat) = ji8 := shr_small hji8
      obtain rfl := Option.some.inj H
      go_enter Try.func70, Try.ntmps70
      go_wp2
      go_ret
      exact ⟨by first | rfl | (simp; done) | (simp only [← hji3, ← hji5, ← hji6, ← hji8] <;> (first | rfl | simp)) | (simp [*]; done), by repeat (first | exact Drawn0.refl _ | apply Drawn0.step)⟩
    · rw [if_neg c7] at H
      exact absurd H (by simp)
  · rw [if_neg c4] at H
    exact absurd H (by simp)

end Go.Proofs.Ytimcafohmahapaa.F

-- F63
namespace Go.Proofs.Ytimcafohmahapaa.F
open Go.RowKit Go.Proofs.YtimcafohmahapaaW.PrintWords Go.Proofs.YtimcafohmahapaaW.PrintLast Go.Proofs.YtimcafohmahapaaW.PrintMore
attribute [local go_sem] max2_int min2_int max_two min_two max_three min_three max_four min_four   -- for this text's walks alone
set_option linter.unusedVariables false
set_option linter.unusedSimpArgs false

/-! ### sha_turn: function 63 -/
def sha_turn.f (a0 : Int) (a1 : Int) : Option (Int) := (bits_RotateLeft32.f a0 (wrap64 (-a1))).bind fun t118 => (some t118)
set_option maxHeartbeats 8000000 in
set_option maxRecDepth 100000 in
theorem sha_turn.calls (a0 : Int) (a1 : Int) (r : Int) (w : World) (h : sha_turn.f a0 a1 = some r) :
    Calls Try.prog 63 #[.int .u32 a0, .int .i64 a1] w fun e w' => e = .returned (.int .u32 r) ∧ Drawn0 w w' := by
  have H : ((bits_RotateLeft32.f a0 (wrap64 (-a1))).bind fun t118 => (some t118)) = some r := h
  clear h
  replace H := Option.bind_eq_some_iff.mp H
  obtain ⟨t118, A30, H⟩ := H
  replace H : (some t118) = some r := H
  have A3 := Aside0.mk A30
  clear A30
  obtain rfl := Option.some.inj H
  go_enter Try.func63, Try.ntmps63
  go_wp2_with (first | ((with_reducible refine gate_callee (f := 70) rfl ?_); refine goesL_ (some 8) rfl rfl Try.func70 (by kernel_rfl) rfl #[.int .u32 a0, .int .i64 (wrap64 (-a1))] rfl (by (try simp only [List.map_toArray, List.map_cons, List.map_nil]); first | done | rfl | (simp only [List.length_drop, List.length_take]; rfl)) ?_; (with_reducible refine (bits_RotateLeft32.calls a0 (wrap64 (-a1)) t118 _ A3.out).mono ?_); rintro e w' ⟨rfl, ⟨nd, rfl⟩⟩; refine ⟨_, rfl, ?_⟩))
  go_ret
  exact ⟨by first | rfl | (simp; done) | (simp [*]; done), by repeat (first | exact Drawn0.refl _ | apply Drawn0.step)⟩

-- NOT PRINTED: function 53 (sha_mix)

-- NOT PRINTED: function 45 (sha_Hash_Write)

end Go.Proofs.Ytimcafohmahapaa.F

-- F67
namespace Go.Proofs.Ytimcafohmahapaa.F
open Go.RowKit Go.Proofs.YtimcafohmahapaaW.PrintWords Go.Proofs.YtimcafohmahapaaW.PrintLast Go.Proofs.YtimcafohmahapaaW.PrintMore
attribute [local go_sem] max2_int min2_int max_two min_two max_three min_three max_four min_four   -- for this text's walks alone
set_option linter.unusedVariables false
set_option linter.unusedSimpArgs false

/-! ### strongroomref02_turn: function 67 -/
def strongroomref02_turn.f (a0 : Int) (a1 : Int) : Option (Int) := if 0 ≤ a1 then (if 0 ≤ (IntKind.u64.wrap (32 - a1)) then (some (Go.bits .or .u32 (shr .u32 a0 a1) (shl .u32 a0 (IntKind.u64.wrap (32 - a1))))) else (none)) else (none)
set_option maxHeartbeats 8000000 in
set_option maxRecDepth 100000 in
theorem strongroomref02_turn.calls (a0 : Int) (a1 : Int) (r : Int) (w : World) (h : strongroomref02_turn.f a0 a1 = some r) :
    Calls Try.prog 67 #[.int .u32 a0, .int .u64 a1] w fun e w' => e = .returned (.int .u32 r) ∧ Drawn0 w w' := by
  have H : (if 0 ≤ a1 then (if 0 ≤ (IntKind.u64.wrap (32 - a1)) then (some (Go.bits .or .u32 (shr .u32 a0 a1) (shl .u32 a0 (IntKind.u64.wrap (32 - a1))))) else (none)) else (none)) = some r := h
  clear h
  by_cases c3 : 0 ≤ a1
  · rw [if_pos c3] at H
    have c3b0 := eq_true c3
    have c3b1 : decide (0 ≤ a1) = true := decide_eq_true c3
    clear c3
    obtain ⟨ji4, hji4⟩ : ∃ j_ : Int, (shr .u32 a0 a1) = j_ := ⟨_, rfl⟩
    replace H : (if 0 ≤ (IntKind.u64.wrap (32 - a1)) then (some (Go.bits .or .u32 (ji4) (shl .u32 a0 (IntKind.u64.wrap (32 - a1))))) else (none)) = some r := by first | (rw [hji4] at H; exact H) | (simp only [hji4] at H ⊢; exact H)
    have hji4_ : (a0 / 2 ^ min a1.toNat 32) = ji4 := hji4
    have hji4z : a1 ≤ 32 → (a0 / 2 ^ a1.toNat) = ji4 := shr_small hji4
    obtain ⟨ji5, hji5⟩ : ∃ j_ : Int, (IntKind.u64.wrap (32 - a1)) = j_ := ⟨_, rfl⟩
    replace H : (if 0 ≤ (ji5) then (some (Go.bits .or .u32 (ji4) (shl .u32 a0 (ji5)))) else (none)) = some r := by first | (rw [hji5] at H; exact H) | (simp only [hji5] at H ⊢; exact H)
    by_cases c6 : 0 ≤ (ji5)
    · rw [if_pos c6] at H
      have c6b0 := eq_true c6
      have c6b1 : decide (0 ≤ (ji5)) = true := decide_eq_true c6
      clear c6
      obtain ⟨ji7, hji7⟩ : ∃ j_ : Int, (shl .u32 a0 (ji5)) = j_ := ⟨_, rfl⟩
      replace H : (some (Go.bits .or .u32 (ji4) (ji7))) = some r := by first | (rw [hji7] at H; exact H) | (simp only [hji7] at H ⊢; exact H)
      have hji7_ : (IntKind.u32.wrap (a0 * 2 ^ min (ji5).toNat 32)) = ji7 := hji7
      have hji7z : (ji5) ≤ 32 → (IntKind.u32.wrap (a0 * 2 ^ (ji5).toNat)) = ji7 := shl_small hji7
      obtain rfl := Option.some.inj H
      go_enter Try.func67, Try.ntmps67
      go_wp2
      go_ret
      exact ⟨by first | rfl | (simp; done) | (simp only [← hji4, ← hji5, ← hji7] <;> (first | rfl | simp)) | (simp [*]; done), by repeat (first | exact Drawn0.refl _ | apply Drawn0.step)⟩
    · rw [if_neg c6] at H
      exact absurd H (by simp)
  · rw [if_neg c3] at H
    exact absurd H (by simp)

-- NOT PRINTED: function 60 (strongroomref02_Mix)

-- NOT PRINTED: function 48 (strongroomref02_Sum)

-- NOT PRINTED: function 49 (strongroomref03_turned)

-- NOT PRINTED: function 43 (strongroomref03_Seal)

-- NOT PRINTED: function 37 (strongroomref10_One)

-- NOT PRINTED: function 24 (strongroomlaw11_clash)

-- NOT PRINTED: function 7 (strongroomlaw11_DeltaBack)

end Go.Proofs.Ytimcafohmahapaa.F

-- ShaT
namespace Go.Proofs.Ytimcafohmahapaa.F
open Go Go.RowKit Go.Proofs.YtimcafohmahapaaW.PrintWords Go.Proofs.YtimcafohmahapaaW.PrintLast Go.Proofs.YtimcafohmahapaaW.PrintMore Go.Proofs.YtimcafohmahapaaR
set_option linter.unusedSimpArgs false
set_option linter.unusedVariables false
def addW (a b : Nat) : Nat := (a + b) % 4294967296
def xorW (a b : Nat) : Nat := a ^^^ b
def andW (a b : Nat) : Nat := a &&& b
def orW (a b : Nat) : Nat := a ||| b
def notW (a : Nat) : Nat := 4294967295 - a
def shrW (a n : Nat) : Nat := a >>> n
def shlW (a n : Nat) : Nat := (a <<< n) % 4294967296
def rotW (a n : Nat) : Nat := orW (shrW a n) (shlW a (32 - n))
theorem addW_lt (a b : Nat) : addW a b < 4294967296 := Nat.mod_lt _ (by omega)
theorem shlW_lt (a b : Nat) : shlW a b < 4294967296 := Nat.mod_lt _ (by omega)
theorem xorW_lt {a b : Nat} (ha : a < 4294967296) (hb : b < 4294967296) : xorW a b < 4294967296 := Nat.xor_lt_two_pow (n := 32) ha hb
theorem andW_lt {a : Nat} (b : Nat) (ha : a < 4294967296) : andW a b < 4294967296 := Nat.lt_of_le_of_lt Nat.and_le_left ha
theorem orW_lt {a b : Nat} (ha : a < 4294967296) (hb : b < 4294967296) : orW a b < 4294967296 := Nat.or_lt_two_pow (n := 32) ha hb
theorem notW_lt (a : Nat) : notW a < 4294967296 := by unfold notW; omega
theorem shrW_lt {a : Nat} (n : Nat) (ha : a < 4294967296) : shrW a n < 4294967296 := by
  unfold shrW; rw [Nat.shiftRight_eq_div_pow]; exact Nat.lt_of_le_of_lt (Nat.div_le_self _ _) ha
theorem rotW_lt {a : Nat} (n : Nat) (ha : a < 4294967296) : rotW a n < 4294967296 := orW_lt (shrW_lt n ha) (shlW_lt _ _)
theorem add_w (a b : Nat) : IntKind.u32.wrap ((a : Int) + (b : Int)) = ((addW a b : Nat) : Int) := by rw [IntKind.wrap_u32]; unfold addW; omega
theorem or_w {a b : Nat} (ha : a < 4294967296) (hb : b < 4294967296) : Go.bits .or .u32 (a : Int) (b : Int) = ((orW a b : Nat) : Int) :=
  (bits_nat .u32 32 (Nat.le_refl _) (fun n h0 h3 => by rw [IntKind.wrap_u32]; omega) a b ha hb).2
theorem and_w {a b : Nat} (ha : a < 4294967296) (hb : b < 4294967296) : Go.bits .and .u32 (a : Int) (b : Int) = ((andW a b : Nat) : Int) :=
  (bits_nat .u32 32 (Nat.le_refl _) (fun n h0 h3 => by rw [IntKind.wrap_u32]; omega) a b ha hb).1
theorem xor_w {a b : Nat} (ha : a < 4294967296) (hb : b < 4294967296) : Go.bits .xor .u32 (a : Int) (b : Int) = ((xorW a b : Nat) : Int) := by
  have h := xorW_lt ha hb
  unfold Go.bits
  simp only [show IntKind.u32.bits = 32 from rfl]
  rw [BitVec.toNat_xor, BitVec.toNat_ofInt, BitVec.toNat_ofInt]
  rw [show ((a : Int) % ((2 ^ IntKind.u32.bits : Nat) : Int)).toNat = a from by show ((a : Int) % 4294967296).toNat = a; omega, show ((b : Int) % ((2 ^ IntKind.u32.bits : Nat) : Int)).toNat = b from by show ((b : Int) % 4294967296).toNat = b; omega]
  exact IntWalk.u32_in _ (by unfold xorW at *; omega)
theorem not_w {a : Nat} (ha : a < 4294967296) : Go.bits .xor .u32 IntKind.u32.max (a : Int) = ((notW a : Nat) : Int) := by
  have h := xor_w (a := 2 ^ 32 - 1) (by omega) ha
  have e : (2 ^ 32 - 1) ^^^ a = 2 ^ 32 - 1 - a := by
    have h1 : (BitVec.allOnes 32 ^^^ BitVec.ofNat 32 a).toNat = (2 ^ 32 - 1) ^^^ a := by
      rw [BitVec.toNat_xor, BitVec.toNat_ofNat, Nat.mod_eq_of_lt (by omega), BitVec.toNat_allOnes]
    rw [← h1, BitVec.allOnes_xor, BitVec.toNat_not, BitVec.toNat_ofNat, Nat.mod_eq_of_lt (by omega)]
  have e2 : xorW (2 ^ 32 - 1) a = notW a := by unfold xorW notW; rw [e]
  rw [e2] at h
  rw [← h]
  congr 1
theorem shr_w (a n : Nat) (hn : n ≤ 32) : shr .u32 (a : Int) (n : Int) = ((shrW a n : Nat) : Int) := by
  unfold shr shrW
  rw [Nat.shiftRight_eq_div_pow, show min (n : Int).toNat IntKind.u32.bits = n from by show min n 32 = n; omega]
  push_cast; rfl
theorem shl_w (a n : Nat) (hn : n ≤ 32) : shl .u32 (a : Int) (n : Int) = ((shlW a n : Nat) : Int) := by
  unfold shl shlW
  rw [Nat.shiftLeft_eq, show min (n : Int).toNat IntKind.u32.bits = n from by show min n 32 = n; omega, IntKind.wrap_u32, show (2 : Int) ^ n = ((2 ^ n : Nat) : Int) from by push_cast; rfl]
  generalize 2 ^ n = k
  rw [show (a : Int) * (k : Int) = ((a * k : Nat) : Int) from by simp]
  generalize a * k = m
  omega
theorem and_31 (z : Int) (h0 : 0 ≤ z) (h1 : z < 18446744073709551616) : Go.bits .and .u64 z 31 = z % 32 := by go_bits2
theorem turn_f (a n : Nat) (ha : a < 4294967296) (h1 : 1 ≤ n) (h2 : n ≤ 31) : sha_turn.f a n = some ((rotW a n : Nat) : Int) := by
  unfold sha_turn.f bits_RotateLeft32.f
  have e0 : wrap64 (-(n : Int)) = -(n : Int) := by unfold wrap64; omega
  have e1 : IntKind.u64.wrap (-(n : Int)) = 18446744073709551616 - (n : Int) := by rw [IntKind.wrap_u64]; omega
  have e2 : Go.bits .and .u64 (18446744073709551616 - (n : Int)) 31 = ((32 - n : Nat) : Int) := by rw [and_31 _ (by omega) (by omega)]; omega
  have e3 : IntKind.u64.wrap (32 - ((32 - n : Nat) : Int)) = (n : Int) := by rw [IntWalk.u64_in _ (by omega)]; omega
  rw [e0, e1, e2, if_pos (by omega), e3, if_pos (by omega), shr_w a n (by omega), shl_w a (32 - n) (by omega), or_w (shlW_lt _ _) (shrW_lt n ha)]
  simp only [Option.bind_some]
  unfold rotW orW
  rw [Nat.or_comm]
theorem rturn_f (a n : Nat) (ha : a < 4294967296) (h1 : 1 ≤ n) (h2 : n ≤ 31) : strongroomref02_turn.f a n = some ((rotW a n : Nat) : Int) := by
  unfold strongroomref02_turn.f
  have e : IntKind.u64.wrap (32 - (n : Int)) = ((32 - n : Nat) : Int) := by rw [IntWalk.u64_in _ (by omega)]; omega
  rw [if_pos (by omega), e, if_pos (by omega), shr_w a n (by omega), shl_w a (32 - n) (by omega), or_w (shrW_lt n ha) (shlW_lt _ _)]
  rfl
theorem turn_c (a n : Nat) (ha : a < 4294967296) (h1 : 1 ≤ n) (h2 : n ≤ 31) (w : World) : Calls Try.prog 63 #[.int .u32 (a : Int), .int .i64 (n : Int)] w (Tells w (Is (.int .u32 ((rotW a n : Nat) : Int)))) :=
  tells_is ((sha_turn.calls a n _ w (turn_f a n ha h1 h2)).mono fun _ _ ⟨h, k⟩ => ⟨h, drawn_below k⟩)
theorem rturn_c (a n : Nat) (ha : a < 4294967296) (h1 : 1 ≤ n) (h2 : n ≤ 31) (w : World) : Calls Try.prog 67 #[.int .u32 (a : Int), .int .u64 (n : Int)] w (Tells w (Is (.int .u32 ((rotW a n : Nat) : Int)))) :=
  tells_is ((strongroomref02_turn.calls a n _ w (rturn_f a n ha h1 h2)).mono fun _ _ ⟨h, k⟩ => ⟨h, drawn_below k⟩)
end Go.Proofs.Ytimcafohmahapaa.F

-- ShaS
namespace Go.Proofs.Ytimcafohmahapaa.F
open Go Go.RowKit
set_option linter.unusedSimpArgs false
set_option linter.unusedVariables false
def byteN (l : List Int) (i : Nat) : Nat := (l.getD i 0).toNat
def be32 (l : List Int) (t : Nat) : Nat := byteN l (4 * t) * 16777216 + byteN l (4 * t + 1) * 65536 + byteN l (4 * t + 2) * 256 + byteN l (4 * t + 3)
def sg0 (x : Nat) : Nat := xorW (xorW (rotW x 7) (rotW x 18)) (shrW x 3)
def sg1 (x : Nat) : Nat := xorW (xorW (rotW x 17) (rotW x 19)) (shrW x 10)
def wnext (w : List Nat) (t : Nat) : Nat := addW (addW (addW (w.getD (t - 16) 0) (w.getD (t - 7) 0)) (sg0 (w.getD (t - 15) 0))) (sg1 (w.getD (t - 2) 0))
/-- the schedule's first words -/
def ws (l : List Int) : Nat → List Nat
  | 0 => []
  | t + 1 => ws l t ++ [if t < 16 then be32 l t else wnext (ws l t) t]
/-- the eight words of a round -/
structure St where
  (a b c d e f g h : Nat)
def bigS1 (e : Nat) : Nat := xorW (xorW (rotW e 6) (rotW e 11)) (rotW e 25)
def bigS0 (a : Nat) : Nat := xorW (xorW (rotW a 2) (rotW a 13)) (rotW a 22)
def chW (e f g : Nat) : Nat := xorW (andW e f) (andW (notW e) g)
def majW (a b c : Nat) : Nat := xorW (xorW (andW a b) (andW a c)) (andW b c)
def uW (s : St) (k w : Nat) : Nat := addW (addW (addW (addW s.h (bigS1 s.e)) (chW s.e s.f s.g)) k) w
def vW (s : St) : Nat := addW (bigS0 s.a) (majW s.a s.b s.c)
def rstep (k w : Nat) (s : St) : St := ⟨addW (uW s k w) (vW s), s.a, s.b, s.c, addW s.d (uW s k w), s.e, s.f, s.g⟩
/-- the first rounds -/
def rn (ks ws : List Nat) : Nat → St → St
  | 0, s => s
  | t + 1, s => rstep (ks.getD t 0) (ws.getD t 0) (rn ks ws t s)
def St.list (s : St) : List Nat := [s.a, s.b, s.c, s.d, s.e, s.f, s.g, s.h]
def St.of (l : List Nat) : St := ⟨l.getD 0 0, l.getD 1 0, l.getD 2 0, l.getD 3 0, l.getD 4 0, l.getD 5 0, l.getD 6 0, l.getD 7 0⟩
/-- the sums, as far as they are made -/
def sumTo (s z : List Nat) (i : Nat) : List Nat := (List.range 8).map fun j => if j < i then addW (s.getD j 0) (z.getD j 0) else s.getD j 0
/-- a state mixed with a block -/
def mixL (ks s : List Nat) (l : List Int) : List Nat := sumTo s (rn ks (ws l 64) 64 (St.of s)).list 8
/-- all are words -/
def words (l : List Nat) : Prop := ∀ x ∈ l, x < 4294967296
structure St.ok (s : St) : Prop where
  (a : s.a < 4294967296) (b : s.b < 4294967296) (c : s.c < 4294967296) (d : s.d < 4294967296) (e : s.e < 4294967296) (f : s.f < 4294967296) (g : s.g < 4294967296) (h : s.h < 4294967296)
theorem words_get {l : List Nat} (h : words l) (i : Nat) : l.getD i 0 < 4294967296 := by
  rw [List.getD_eq_getElem?_getD]
  by_cases hi : i < l.length
  · rw [List.getElem?_eq_getElem hi]; exact h _ (List.getElem_mem hi)
  · rw [List.getElem?_eq_none (by omega)]; simp
theorem St.of_ok {l : List Nat} (h : words l) : (St.of l).ok := ⟨words_get h 0, words_get h 1, words_get h 2, words_get h 3, words_get h 4, words_get h 5, words_get h 6, words_get h 7⟩
theorem rstep_ok {s : St} (k w : Nat) (h : s.ok) : (rstep k w s).ok := ⟨addW_lt _ _, h.a, h.b, h.c, addW_lt _ _, h.e, h.f, h.g⟩
theorem rn_ok {ks ws : List Nat} {s : St} (h : s.ok) : ∀ t, (rn ks ws t s).ok
  | 0 => h
  | t + 1 => rstep_ok _ _ (rn_ok h t)
theorem ws_len (l : List Int) : ∀ t, (ws l t).length = t
  | 0 => rfl
  | t + 1 => by simp [ws, ws_len l t]
theorem byteN_lt {l : List Int} (h : ∀ x ∈ l, 0 ≤ x ∧ x < 256) (i : Nat) : byteN l i < 256 := by
  unfold byteN
  rw [List.getD_eq_getElem?_getD]
  by_cases hi : i < l.length
  · rw [List.getElem?_eq_getElem hi]; have := h _ (List.getElem_mem hi); simp; omega
  · rw [List.getElem?_eq_none (by omega)]; simp
theorem be32_lt {l : List Int} (h : ∀ x ∈ l, 0 ≤ x ∧ x < 256) (t : Nat) : be32 l t < 4294967296 := by
  have h0 := byteN_lt h (4 * t)
  have h1 := byteN_lt h (4 * t + 1)
  have h2 := byteN_lt h (4 * t + 2)
  have h3 := byteN_lt h (4 * t + 3)
  unfold be32; omega
theorem ws_words {l : List Int} (h : ∀ x ∈ l, 0 ≤ x ∧ x < 256) : ∀ t, words (ws l t)
  | 0 => fun x hx => by simp [ws] at hx
  | t + 1 => fun x hx => by
    rcases List.mem_append.1 hx with hx | hx
    · exact ws_words h t x hx
    · rw [List.mem_singleton.1 hx]
      split
      · exact be32_lt h t
      · exact addW_lt _ _
theorem sumTo_words (s z : List Nat) (hs : words s) (i : Nat) : words (sumTo s z i) := by
  intro x hx
  obtain ⟨j, -, rfl⟩ := List.mem_map.1 hx
  show (if j < i then addW (s.getD j 0) (z.getD j 0) else s.getD j 0) < 4294967296
  split
  · exact addW_lt _ _
  · exact words_get hs j
theorem list8 (s : List Nat) (h : s.length = 8) : (List.range 8).map (fun j => s.getD j 0) = s := by
  apply List.ext_getElem?
  intro j
  by_cases hj : j < 8
  · rw [List.getElem?_map, List.getElem?_range hj, List.getElem?_eq_getElem (by omega : j < s.length)]
    show some (s.getD j 0) = _
    rw [List.getD_eq_getElem?_getD, List.getElem?_eq_getElem (by omega : j < s.length)]; rfl
  · rw [List.getElem?_eq_none (by simp; omega), List.getElem?_eq_none (by omega)]
theorem St.of_list (s : List Nat) (h : s.length = 8) : (St.of s).list = s := by
  have e : (St.of s).list = (List.range 8).map (fun j => s.getD j 0) := by rfl
  rw [e, list8 s h]
theorem sumTo_0 (s z : List Nat) (h : s.length = 8) : sumTo s z 0 = s := by
  have : sumTo s z 0 = (List.range 8).map (fun j => s.getD j 0) := by unfold sumTo; simp
  rw [this, list8 s h]
theorem sumTo_len (s z : List Nat) (i : Nat) : (sumTo s z i).length = 8 := by simp [sumTo]
theorem sumTo_get (s z : List Nat) (i j : Nat) (h : j < 8) : (sumTo s z i)[j]? = some (if j < i then addW (s.getD j 0) (z.getD j 0) else s.getD j 0) := by
  unfold sumTo
  rw [List.getElem?_map, List.getElem?_range h]; rfl
theorem sumTo_at (s z : List Nat) (i : Nat) (h : i < 8) : (sumTo s z i).getD i 0 = s.getD i 0 := by
  rw [List.getD_eq_getElem?_getD, sumTo_get s z i i h, if_neg (by omega)]; rfl
theorem sumTo_succ (s z : List Nat) (i : Nat) (h : i < 8) : (sumTo s z i).set i (addW (s.getD i 0) (z.getD i 0)) = sumTo s z (i + 1) := by
  apply List.ext_getElem?
  intro j
  by_cases hj : j < 8
  · rw [List.getElem?_set, sumTo_len, sumTo_get s z (i + 1) j hj, sumTo_get s z i j hj]
    by_cases e : i = j
    · subst e; rw [if_pos rfl, if_pos h, if_pos (by omega)]
    · rw [if_neg e]
      by_cases h1 : j < i
      · rw [if_pos h1, if_pos (by omega)]
      · rw [if_neg h1, if_neg (by omega)]
  · rw [List.getElem?_eq_none (by rw [List.length_set, sumTo_len]; omega), List.getElem?_eq_none (by rw [sumTo_len]; omega)]
theorem mixL_words (ks s : List Nat) (l : List Int) (hs : words s) : words (mixL ks s l) := sumTo_words _ _ hs _
theorem mixL_len (ks s : List Nat) (l : List Int) : (mixL ks s l).length = 8 := by simp [mixL, sumTo]
/-- a byte put behind -/
theorem or_byte (x b : Nat) (hx : x < 16777216) (hb : b < 256) : orW (shlW x 8) b = x * 256 + b := by
  unfold orW shlW
  rw [Nat.shiftLeft_eq, Nat.mod_eq_of_lt (by omega), show x * 2 ^ 8 = 2 ^ 8 * x from by omega, ← Nat.two_pow_add_eq_or_of_lt (by omega : b < 2 ^ 8)]
end Go.Proofs.Ytimcafohmahapaa.F
