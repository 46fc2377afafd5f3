/- Texts of this seat laid together: F, F43, F44, F31, F35, F33, NumMath, Reg, NumC, NumG, F32, NumK, Own, F11, F8, F9, F10, F14, LnkM, LnkD, Upd, F34, LnkE, Grp, Arr, LnkF, RowO, RegB, F38, LnkS, LnkP. -/
import Derived.Test.YteaefambkagpbaaProg
import Derived.Below
import Derived.Deep.Draws
import Derived.Deep.AppendLies
import Derived.Maps.AppendAt
import Derived.OwnWalk
import Derived.Laws.BytesArg
import Derived.Laws.MakeOwn
import Derived.Laws.OwnMore
import Derived.Deep.OwnRows
import Derived.Tactics
import Derived.Lib.ConvBytes
import Derived.Laws.Slices
import Derived.WalkKit
import Derived.KernelRfl
import Derived.RowKit3
import Derived.Deep.LoopGhost
import Derived.Deep.QuietTactic
import Derived.BigQuiet
import Derived.WideLaws
import Derived.Deep.DeepCutAuto
import Derived.Deep.CutBlock
import Derived.Deep.RegionHeld3
import Derived.Laws.Rows
import Derived.Lib.AppendStr
import Derived.ArgAppend
import Derived.Laws.IdiomCopy
import Derived.OrdersHeld
import Derived.Laws.BitsLemmas
import Derived.RowKit
import Derived.Test.YteaefambkagpbaaVWords
import Derived.Test.YteaefambkagpbaaVLast
import Derived.Test.YteaefambkagpbaaVTab
import Derived.Test.YteaefambkagpbaaVFour
import Derived.Test.YteaefambkagpbaaVQPut
import Derived.Test.YteaefambkagpbaaVApart
import Derived.Test.YteaefambkagpbaaVArr
import Derived.Test.YteaefambkagpbaaVZeros
import Derived.Test.YteaefambkagpbaaVFoot
import Derived.Test.YteaefambkagpbaaVKept
import Derived.Test.YteaefambkagpbaaVShare
import Derived.Test.YteaefambkagpbaaVN
import Derived.Test.YteaefambkagpbaaVFootNe
import Derived.Test.YteaefambkagpbaaVAt
import Derived.Test.YteaefambkagpbaaVEqStruct
import Derived.Test.YteaefambkagpbaaVRepsOne
import Derived.Test.YteaefambkagpbaaVInv
import Derived.Test.YteaefambkagpbaaVInvWords
import Derived.Test.YteaefambkagpbaaVGuard
import Derived.Test.YteaefambkagpbaaVNEv
import Derived.Test.YteaefambkagpbaaVMore
import Derived.Orders
import Derived.Lib.Hide
import Derived.IntWalk
import Derived.Maps.GroupsBeside
import Derived.Maps.Range
import Derived.Laws.Tables
import Derived.Deep.MidRow

-- F
namespace Go.Proofs.Yteaefambkagpbaa.F
open Go.RowKit Go.Proofs.YteaefambkagpbaaW.PrintWords Go.Proofs.YteaefambkagpbaaW.PrintLast Go.Proofs.YteaefambkagpbaaW.PrintMore
attribute [local go_sem] max2_int min2_int max_two min_two max_three min_three max_four min_four   -- for this text's walks alone
set_option linter.unusedVariables false
set_option linter.unusedSimpArgs false



def errW : Option Int → Value
  | none => .nilIface
  | some c => .iface 0 (.int .i64 c)
theorem errW_none : errW none = .nilIface := rfl
theorem errW_some (c : Int) : errW (some c) = .iface 0 (.int .i64 c) := rfl

theorem info5 : (Try.prog.info? 5).map (fun i => (i.zero, i.size, i.bytes)) = some (some (.int .u8 0), 1, 1) := by kernel_rfl
theorem info9 : (Try.prog.info? 9).map (fun i => (i.zero, i.size, i.bytes)) = some (some (.string ⟨#[]⟩), 1, 16) := by kernel_rfl
theorem info30 : (Try.prog.info? 30).map (fun i => (i.zero, i.size, i.bytes)) = some (some (.agg #[(.bool false), (.int .i64 0), (.bool false), (.string ⟨#[]⟩), (.int .i64 0)]), 5, 48) := by kernel_rfl
-- the values' own types
/-! #### struct type 30 -/
structure S30 where
  f0 : Bool
  f1 : Int
  f2 : Bool
  f3 : ByteArray
  f4 : Int
def z30 : S30 := ⟨false, (0 : Int), false, (⟨#[]⟩ : ByteArray), (0 : Int)⟩
def k30 : Kd S30 := Kd.iso (Kd.pair Kd.bool (Kd.pair (Kd.int .i64) (Kd.pair Kd.bool (Kd.pair Kd.string (Kd.int .i64))))) (fun x : S30 => (x.f0, x.f1, x.f2, x.f3, x.f4))
theorem k30_open {w : World} {x : S30} {cs : List Value} (h : k30.K w x cs) : cs = [.bool x.f0, .int .i64 x.f1, .bool x.f2, .string x.f3, .int .i64 x.f4] := by
  obtain ⟨_, _, rfl, rfl, ⟨_, _, rfl, rfl, ⟨_, _, rfl, rfl, ⟨_, _, rfl, rfl, rfl⟩⟩⟩⟩ := h
  exact rfl
theorem k30_mkM (w : World) (base : Nat) (ok : Nat → Prop) (x : S30)  : k30.M w base ok x [.bool x.f0, .int .i64 x.f1, .bool x.f2, .string x.f3, .int .i64 x.f4] := ⟨[.bool x.f0], [.int .i64 x.f1, .bool x.f2, .string x.f3, .int .i64 x.f4], rfl, rfl, ⟨[.int .i64 x.f1], [.bool x.f2, .string x.f3, .int .i64 x.f4], rfl, rfl, ⟨[.bool x.f2], [.string x.f3, .int .i64 x.f4], rfl, rfl, ⟨[.string x.f3], [.int .i64 x.f4], rfl, rfl, rfl⟩⟩⟩⟩
def rd_T30 (xs : List S30) (i : Int) : S30 := xs.getD i.toNat z30
theorem at_T30 {w : World} {A : Option Addr} {n : Nat} {xs : List S30} (h : Kd.C k30 w A n xs) (i : Int) (h0 : 0 ≤ i) (h1 : i < n) : ∃ ad , A = some ad ∧ w.cell? (ad.add (i.toNat * 5)) = some (.bool (rd_T30 xs i).f0) ∧ w.cell? ⟨(ad.add (i.toNat * 5)).block, (ad.add (i.toNat * 5)).off + 1, none⟩ = some (.int .i64 (rd_T30 xs i).f1) ∧ w.cell? ⟨(ad.add (i.toNat * 5)).block, (ad.add (i.toNat * 5)).off + 2, none⟩ = some (.bool (rd_T30 xs i).f2) ∧ w.cell? ⟨(ad.add (i.toNat * 5)).block, (ad.add (i.toNat * 5)).off + 3, none⟩ = some (.string (rd_T30 xs i).f3) ∧ w.cell? ⟨(ad.add (i.toNat * 5)).block, (ad.add (i.toNat * 5)).off + 4, none⟩ = some (.int .i64 (rd_T30 xs i).f4) := by
  obtain ⟨ad, c, e, _, hK, hc0⟩ := Kd.C_get h z30 i h0 h1
  have hc : ∀ j u, c[j]? = some u → w.cell? (ad.add (i.toNat * 5 + j)) = some u := hc0
  obtain rfl := k30_open hK
  exact ⟨ad, e, hc 0 _ rfl, by rw [← add_field _ _ 1 (by omega)]; exact hc 1 _ rfl, by rw [← add_field _ _ 2 (by omega)]; exact hc 2 _ rfl, by rw [← add_field _ _ 3 (by omega)]; exact hc 3 _ rfl, by rw [← add_field _ _ 4 (by omega)]; exact hc 4 _ rfl⟩

/-! #### struct type 86 -/
structure S86 where
  f0 : S30
  f1 : Bool
  f2 : Int
  f3 : Bool
/-! #### struct type 73 -/
structure S73 where
  f0 : Int
  f1 : Int
def z73 : S73 := ⟨(0 : Int), (0 : Int)⟩
def k73 : Kd S73 := Kd.iso (Kd.pair (Kd.int .i64) (Kd.int .i64)) (fun x : S73 => (x.f0, x.f1))
theorem k73_open {w : World} {x : S73} {cs : List Value} (h : k73.K w x cs) : cs = [.int .i64 x.f0, .int .i64 x.f1] := by
  obtain ⟨_, _, rfl, rfl, rfl⟩ := h
  exact rfl
def rd_T73 (xs : List S73) (i : Int) : S73 := xs.getD i.toNat z73
theorem at_T73 {w : World} {A : Option Addr} {n : Nat} {xs : List S73} (h : Kd.C k73 w A n xs) (i : Int) (h0 : 0 ≤ i) (h1 : i < n) : ∃ ad , A = some ad ∧ w.cell? (ad.add (i.toNat * 2)) = some (.int .i64 (rd_T73 xs i).f0) ∧ w.cell? ⟨(ad.add (i.toNat * 2)).block, (ad.add (i.toNat * 2)).off + 1, none⟩ = some (.int .i64 (rd_T73 xs i).f1) := by
  obtain ⟨ad, c, e, _, hK, hc0⟩ := Kd.C_get h z73 i h0 h1
  have hc : ∀ j u, c[j]? = some u → w.cell? (ad.add (i.toNat * 2 + j)) = some u := hc0
  obtain rfl := k73_open hK
  exact ⟨ad, e, hc 0 _ rfl, by rw [← add_field _ _ 1 (by omega)]; exact hc 1 _ rfl⟩

/-! #### struct type 23 -/
structure S23 where
  f0 : Bool
  f1 : Int
  f2 : Bool
  f3 : ByteArray
  f4 : Int
end Go.Proofs.Yteaefambkagpbaa.F

-- F43
namespace Go.Proofs.Yteaefambkagpbaa.F
open Go.RowKit Go.Proofs.YteaefambkagpbaaW.PrintWords Go.Proofs.YteaefambkagpbaaW.PrintLast Go.Proofs.YteaefambkagpbaaW.PrintMore
attribute [local go_sem] max2_int min2_int max_two min_two max_three min_three max_four min_four   -- for this text's walks alone
set_option linter.unusedVariables false
set_option linter.unusedSimpArgs false

end Go.Proofs.Yteaefambkagpbaa.F

-- F44
namespace Go.Proofs.Yteaefambkagpbaa.F
open Go.RowKit Go.Proofs.YteaefambkagpbaaW.PrintWords Go.Proofs.YteaefambkagpbaaW.PrintLast Go.Proofs.YteaefambkagpbaaW.PrintMore
attribute [local go_sem] max2_int min2_int max_two min_two max_three min_three max_four min_four   -- for this text's walks alone
set_option linter.unusedVariables false
set_option linter.unusedSimpArgs false

end Go.Proofs.Yteaefambkagpbaa.F

-- F31
namespace Go.Proofs.Yteaefambkagpbaa.F
open Go.RowKit Go.Proofs.YteaefambkagpbaaW.PrintWords Go.Proofs.YteaefambkagpbaaW.PrintLast Go.Proofs.YteaefambkagpbaaW.PrintMore
attribute [local go_sem] max2_int min2_int max_two min_two max_three min_three max_four min_four   -- for this text's walks alone
set_option linter.unusedVariables false
set_option linter.unusedSimpArgs false

end Go.Proofs.Yteaefambkagpbaa.F

-- F35
namespace Go.Proofs.Yteaefambkagpbaa.F
open Go.RowKit Go.Proofs.YteaefambkagpbaaW.PrintWords Go.Proofs.YteaefambkagpbaaW.PrintLast Go.Proofs.YteaefambkagpbaaW.PrintMore
attribute [local go_sem] max2_int min2_int max_two min_two max_three min_three max_four min_four   -- for this text's walks alone
set_option linter.unusedVariables false
set_option linter.unusedSimpArgs false

end Go.Proofs.Yteaefambkagpbaa.F

-- F33
namespace Go.Proofs.Yteaefambkagpbaa.F
open Go.RowKit Go.Proofs.YteaefambkagpbaaW.PrintWords Go.Proofs.YteaefambkagpbaaW.PrintLast Go.Proofs.YteaefambkagpbaaW.PrintMore
attribute [local go_sem] max2_int min2_int max_two min_two max_three min_three max_four min_four   -- for this text's walks alone
set_option linter.unusedVariables false
set_option linter.unusedSimpArgs false

end Go.Proofs.Yteaefambkagpbaa.F

-- NumMath
namespace Go.Proofs.YteaefambkagpbaaM
open Go Go.RowKit
set_option linter.unusedVariables false
end Go.Proofs.YteaefambkagpbaaM

-- Reg
namespace Go.Proofs.YteaefambkagpbaaR
open Go Go.RowKit

/-- what an operation reads: a temporary, and the last operation ahead of it (in the text) that writes it -/
abbrev Reads := List (Tmp × Option Nat)
/-- its guard: the temporary, and what it must be -/
abbrev GuardT := Option (Tmp × Bool)

def lastW (ops : Array Oper) (p : Nat → Bool) (t : Tmp) : Option Nat :=
  (List.range ops.size).reverse.find? fun j => p j && ((ops[j]?).bind (·.dst) == some t)

def bitsOf (A : List Nat) : List Edge → Nat
  | [] => 0
  | e :: es => (if Region.binds .any e then 2 ^ e.on ||| A.getD e.on 0 else 0) ||| bitsOf A es

def mkAnc (ops : List Oper) : List Nat := ops.foldl (fun A o => A ++ [bitsOf A o.after.toList]) []

def edgesOk (ops : Array Oper) (A : List Nat) : Bool :=
  (List.range ops.size).all fun j => match ops[j]? with
    | none => true
    | some o => A.getD j 0 == bitsOf A o.after.toList && o.after.toList.all fun e => !Region.binds .any e || decide (e.on < j)

def names (ops : Array Oper) (o : Oper) : List Tmp := o.dst.toList ++ o.looksAt ops

def pairsOk (ops : Array Oper) (A : List Nat) : Bool :=
  (List.range ops.size).all fun j => match ops[j]? with
    | none => true
    | some oj => (List.range j).all fun i => match ops[i]? with
      | none => true
      | some oi => (A.getD j 0).testBit i || ((oi.dst.all fun t => !(names ops oj).contains t) && (oj.dst.all fun t => !(oi.looksAt ops).contains t))

def readsOk (ops : Array Oper) (reads : List (Reads × GuardT)) (n : Nat) : Bool :=
  (List.range reads.length).all fun i => match ops[i]?, reads[i]? with
    | some o, some (r, g) =>
      (r.all fun (t, j) => (o.looksAt ops).contains t && lastW ops (fun j => decide (j < i)) t == j) &&
      (o.dst.all fun d => decide (d < n)) &&
      (match o.guard, g with
        | none, none => true
        | some (k, want), some (t, want') => want == want' && (ops[k]?).bind (·.dst) == some t
        | _, _ => false)
    | _, _ => true

def finalOk (ops : Array Oper) (m : Nat) (fin : List (Tmp × Nat)) : Bool :=
  (fin.all fun (t, j) => lastW ops (fun j => decide (j < m)) t == some j) &&
  (ops.toList.take m).all fun o => o.dst.all fun t => (fin.map (·.1)).contains t

/-- from operation m on, each waits for all that stand ahead of it -/
def tailOk (ops : Array Oper) (A : List Nat) (m : Nat) : Bool :=
  decide (m ≤ ops.size) && (List.range ops.size).all fun j => decide (j < m) || (List.range j).all fun i => (A.getD j 0).testBit i

def regionOk (ops : Array Oper) (reads : List (Reads × GuardT)) (fin : List (Tmp × Nat)) (n : Nat) : Bool :=
  let A := mkAnc ops.toList
  edgesOk ops A && pairsOk ops A && readsOk ops reads n && finalOk ops reads.length fin && tailOk ops A reads.length

section
variable (P : Program) (Q : Exit → Act → World → Prop) (R : World → World → Prop) (V : Nat → World → Value → Prop) (a0 : Act) (w0 : World) (E : Act → World → Prop)

def Dep (a : Act) (w : World) : Tmp × Option Nat → Prop
  | (t, some j) => V j w (a.tmps[t]?.getD undef)
  | (t, none) => a.tmps[t]?.getD undef = a0.tmps[t]?.getD undef

def Deps (a : Act) (w : World) : Reads → Prop
  | [] => True
  | r :: rs => Dep V a0 a w r ∧ Deps a w rs

/-- an operation's goal: whatever comes behind it -/
def OpGoal (o : Oper) (g : GuardT) (i : Nat) (a : Act) (w : World) : Prop :=
  match g with
  | none => ∀ K : Act → World → Prop, (∀ v w', R w w' → V i w' v → K (a.put o.dst v) w') → o.wp P a w K Q
  | some (t, want) => (a.tmps[t]?.getD undef = .bool want → ∀ K : Act → World → Prop, (∀ v w', R w w' → V i w' v → K (a.put o.dst v) w') → o.wp P a w K Q) ∧
      (a.tmps[t]?.getD undef ≠ .bool want → V i w undef)

def OpsHold : Nat → List Oper → List (Reads × GuardT) → Prop
  | i, o :: os, (r, g) :: rs => (∀ a w, R w0 w → Deps V a0 a w r → OpGoal P Q R V o g i a w) ∧ OpsHold (i + 1) os rs
  | _, _, _ => True

/-- behind the region: what each temporary holds at last -/
def EndHold : (World → Prop) → List (Tmp × Nat) → Act → Prop
  | F, [], a => ∀ w, R w0 w → F w → E a w
  | F, (t, j) :: fin, a => ∀ v, EndHold (fun w => F w ∧ V j w v) fin (a.put (some t) v)
end

theorem testBit_bitsOf (A : List Nat) (i : Nat) : ∀ es : List Edge, (bitsOf A es).testBit i = true →
    ∃ e ∈ es, Region.binds .any e = true ∧ (e.on = i ∨ (A.getD e.on 0).testBit i = true)
  | [], h => by simp [bitsOf] at h
  | e :: es, h => by
    simp only [bitsOf, Nat.testBit_or, Bool.or_eq_true] at h
    rcases h with h | h
    · split at h
      · rename_i hb
        simp only [Nat.testBit_or, Bool.or_eq_true, Nat.testBit_two_pow, decide_eq_true_eq] at h
        exact ⟨e, by simp, hb, h⟩
      · simp at h
    · obtain ⟨e', he, hb, h'⟩ := testBit_bitsOf A i es h
      exact ⟨e', by simp [he], hb, h'⟩

/-- what is listed is closed downward -/
def Closed (ops : Array Oper) (listed : Array Bool) : Prop :=
  ∀ j o, ops[j]? = some o → listed.getD j false = true → ∀ e ∈ o.after, Region.binds .any e = true → listed.getD e.on false = true

theorem closed_anc {ops : Array Oper} {A : List Nat} {listed : Array Bool} (hA : edgesOk ops A = true) (hc : Closed ops listed) :
    ∀ (j : Nat) (o : Oper), ops[j]? = some o → (∀ e ∈ o.after, Region.binds .any e = true → listed.getD e.on false = true) → ∀ i, (A.getD j 0).testBit i = true → listed.getD i false = true := by
  intro j
  induction j using Nat.strongRecOn with
  | _ j ih =>
    intro o ho hd i hi
    have hj : j < ops.size := (Array.getElem?_eq_some_iff.1 ho).1
    have h1 := List.all_eq_true.1 hA j (List.mem_range.2 hj)
    simp only [ho, Bool.and_eq_true, beq_iff_eq, List.all_eq_true, Bool.or_eq_true, Bool.not_eq_true', decide_eq_true_eq] at h1
    obtain ⟨e1, e2⟩ := h1
    rw [e1] at hi
    obtain ⟨e, he, hb, h⟩ := testBit_bitsOf A i _ hi
    have hlt := (e2 e he).resolve_left (by simp [hb])
    have hl := hd e (by simpa using he) hb
    rcases h with rfl | h
    · exact hl
    · have hek : e.on < ops.size := by omega
      exact ih e.on hlt _ (Array.getElem?_eq_getElem hek) (hc e.on _ (Array.getElem?_eq_getElem hek) hl) i h

theorem getD_set_self {listed : Array Bool} {i : Nat} (h : i < listed.size) (d : Bool) : (listed.setIfInBounds i true).getD i d = true := by
  simp [h]
theorem getD_set_other {listed : Array Bool} {i j : Nat} (d : Bool) (h : i ≠ j) : (listed.setIfInBounds i true).getD j d = listed.getD j d := by
  simp [Array.getElem?_setIfInBounds_ne h]
theorem getD_irrel {listed : Array Bool} {i : Nat} (h : i < listed.size) (d d' : Bool) : listed.getD i d = listed.getD i d' := by simp [h]

theorem lastW_congr {ops : Array Oper} {p q : Nat → Bool} {t : Tmp} (h : ∀ j o, ops[j]? = some o → o.dst = some t → p j = q j) : lastW ops p t = lastW ops q t := by
  unfold lastW
  have aux : ∀ l : List Nat, l.find? (fun j => p j && ((ops[j]?).bind (·.dst) == some t)) = l.find? (fun j => q j && ((ops[j]?).bind (·.dst) == some t)) := by
    intro l
    induction l with
    | nil => rfl
    | cons j l ih =>
      have e : (p j && ((ops[j]?).bind (·.dst) == some t)) = (q j && ((ops[j]?).bind (·.dst) == some t)) := by
        cases ho : ops[j]? with
        | none => simp
        | some o =>
          by_cases hd : o.dst = some t
          · rw [h j o ho hd]
          · simp [show (o.dst == some t) = false from by simpa using hd]
      simp only [List.find?_cons, e, ih]
  exact aux _

theorem lastW_set {ops : Array Oper} {p : Nat → Bool} {i : Nat} {o : Oper} {t : Tmp} (ho : ops[i]? = some o) (hd : o.dst = some t) (hp : p i = true)
    (hno : ∀ j oj, ops[j]? = some oj → oj.dst = some t → i < j → p j = false) : lastW ops p t = some i := by
  unfold lastW
  have hi : i < ops.size := (Array.getElem?_eq_some_iff.1 ho).1
  have : (List.range ops.size) = List.range (i + 1) ++ (List.range' (i + 1) (ops.size - (i + 1))) := by
    rw [List.range_eq_range', List.range_eq_range']
    have := List.range'_append_1 (s := 0) (m := i + 1) (n := ops.size - (i + 1))
    rw [Nat.zero_add] at this
    rw [this]; congr 1; omega
  rw [this, List.reverse_append, List.find?_append]
  rw [List.find?_eq_none.2]
  · rw [List.range_succ, List.reverse_append]
    simp [ho, hd, hp]
  · intro x hx
    simp only [List.mem_reverse, List.mem_range'_1] at hx
    cases hox : ops[x]? with
    | none => simp
    | some ox =>
      by_cases hdx : ox.dst = some t
      · simp [hno x ox hox hdx (by omega)]
      · simp [hdx]

section
variable {P : Program} {ops : Array Oper} {Q : Exit → Act → World → Prop} {R : World → World → Prop} {V : Nat → World → Value → Prop} {a0 : Act} {w0 : World} {E : Act → World → Prop}

/-- what is known between two operations -/
structure Inv (ops : Array Oper) (m : Nat) (R : World → World → Prop) (V : Nat → World → Value → Prop) (a0 : Act) (w0 : World) (listed : Array Bool) (a : Act) (w : World) : Prop where
  step : R w0 w
  size : a.tmps.size = a0.tmps.size
  defers : a.defers = a0.defers
  lsize : listed.size = ops.size
  closed : Closed ops listed
  tail : ∀ j, m ≤ j → listed.getD j false = false
  tmps : ∀ t, match lastW ops (fun j => listed.getD j false) t with
    | some j => V j w (a.tmps[t]?.getD undef)
    | none => a.tmps[t]?.getD undef = a0.tmps[t]?.getD undef

theorem opsHold_at : ∀ (os : List Oper) (rs : List (Reads × GuardT)) (k i : Nat) (o : Oper) (r : Reads) (g : GuardT), OpsHold P Q R V a0 w0 k os rs → os[i]? = some o → rs[i]? = some (r, g) →
    ∀ a w, R w0 w → Deps V a0 a w r → OpGoal P Q R V o g (k + i) a w
  | [], _, _, i, o, r, g, _, ho, _ => by simp at ho
  | o' :: os, [], _, i, o, r, g, _, _, hr => by simp at hr
  | o' :: os, (r', g') :: rs, k, 0, o, r, g, h, ho, hr => by
    simp at ho hr
    obtain ⟨rfl, rfl⟩ := hr
    subst ho
    exact h.1
  | o' :: os, (r', g') :: rs, k, i + 1, o, r, g, h, ho, hr => by
    have := opsHold_at os rs (k + 1) i o r g h.2 (by simpa using ho) (by simpa using hr)
    rw [show k + 1 + i = k + (i + 1) from by omega] at this
    exact this

theorem deps_of (a : Act) (w : World) : ∀ r : Reads, (∀ x ∈ r, Dep V a0 a w x) → Deps V a0 a w r
  | [], _ => trivial
  | x :: r, h => ⟨h x (by simp), deps_of a w r fun y hy => h y (by simp [hy])⟩

theorem unlisted_set {listed : Array Bool} {i : Nat} (h : listed.getD i true = false) (n : Nat) (hn : (listed.toList.count false) ≤ n + 1) : ((listed.setIfInBounds i true).toList.count false) ≤ n := by
  have hi : i < listed.size := by
    rcases Nat.lt_or_ge i listed.size with h' | h'
    · exact h'
    · simp [Array.getElem?_eq_none h'] at h
  have hv : listed[i] = false := by simpa [hi] using h
  rw [Array.toList_setIfInBounds]
  have hl : i < listed.toList.length := by simpa using hi
  rw [List.count_set hl]
  have : listed.toList[i] = false := by simpa using hv
  rw [this]
  simp only [beq_self_eq_true, if_true]
  have hb : (true == false) = false := rfl
  rw [hb]
  simp only [Bool.false_eq_true, if_false]
  omega

theorem all_of_ready {md : Region.Mode} {listed : Array Bool} {A : List Nat} (hm : md = .any) (hA : edgesOk ops A = true) (hs : listed.size = ops.size) (h : Region.ready md ops listed = []) :
    ∀ j, j < ops.size → listed.getD j false = true := by
  subst hm
  intro j
  induction j using Nat.strongRecOn with
  | _ j ih =>
    intro hj
    cases hl : listed.getD j false with
    | true => rfl
    | false =>
      exfalso
      have ho := Array.getElem?_eq_getElem hj
      have h1 := List.all_eq_true.1 hA j (List.mem_range.2 hj)
      simp only [ho, Bool.and_eq_true, beq_iff_eq, List.all_eq_true, Bool.or_eq_true, Bool.not_eq_true', decide_eq_true_eq] at h1
      have : j ∈ Region.ready .any ops listed := mem_ready.2 ⟨by rw [getD_irrel (by omega) true false]; exact hl, _, ho, fun e he hb => ih e.on ((h1.2 e (by simpa using he)).resolve_left (by simp [hb])) (by have := (h1.2 e (by simpa using he)).resolve_left (by simp [hb]); omega)⟩
      rw [h] at this
      cases this

theorem wanted_iff {o : Oper} {k : Nat} {want : Bool} {t : Tmp} {a : Act} (hg : o.guard = some (k, want)) (hk : (ops[k]?).bind (·.dst) = some t) :
    Region.wanted o (yielded ops a.tmps) = true ↔ a.tmps[t]?.getD undef = .bool want := by
  unfold Region.wanted yielded
  rw [hg]
  simp only []
  rw [hk]
  simp only [Option.bind_some]
  cases h : a.tmps[t]? with
  | none => simp [undef]
  | some v => cases v <;> simp

/-- the tail: one behind the other, in the text's order -/
theorem wpAny_tail {A : List Nat} {m : Nat} (hA : edgesOk ops A = true) (hT : tailOk ops A m = true) :
    ∀ (fuel k : Nat) (listed : Array Bool) (a : Act) (w : World), m ≤ k → ops.size ≤ k + fuel → k ≤ ops.size → listed.size = ops.size → (∀ j, listed.getD j false = decide (j < k)) →
      wpList P ops Q (ops.toList.drop k) a w → wpAny P .any ops Q fuel listed a w := by
  simp only [tailOk, Bool.and_eq_true, decide_eq_true_eq, List.all_eq_true, Bool.or_eq_true, List.mem_range] at hT
  have ready_at : ∀ (k : Nat) (listed : Array Bool), m ≤ k → k ≤ ops.size → listed.size = ops.size → (∀ j, listed.getD j false = decide (j < k)) → ∀ i, i ∈ Region.ready .any ops listed ↔ i = k ∧ k < ops.size := by
    intro k listed hmk hk hs hl i
    constructor
    · intro hi
      obtain ⟨hun, o, ho, hd⟩ := mem_ready.1 hi
      have hisz := (Array.getElem?_eq_some_iff.1 ho).1
      have hik : ¬ i < k := by
        have := hl i
        rw [getD_irrel (by omega) false true, hun] at this
        simpa using this.symm
      rcases Nat.lt_or_ge k i with hlt | hge
      · exfalso
        have hb := (hT.2 i hisz).resolve_left (by omega) k hlt
        have hcl : Closed ops listed := by
          intro j oj hoj hlj e he hbe
          have h1 := List.all_eq_true.1 hA j (List.mem_range.2 (Array.getElem?_eq_some_iff.1 hoj).1)
          simp only [hoj, Bool.and_eq_true, beq_iff_eq, List.all_eq_true, Bool.or_eq_true, Bool.not_eq_true', decide_eq_true_eq] at h1
          have := (h1.2 e (by simpa using he)).resolve_left (by simp [hbe])
          rw [hl] at hlj ⊢
          simp at hlj ⊢
          omega
        have := closed_anc hA hcl i o ho hd k hb
        rw [hl] at this
        simp at this
      · exact ⟨by omega, by omega⟩
    · rintro ⟨rfl, hlt⟩
      refine mem_ready.2 ⟨by rw [getD_irrel (by omega) true false, hl]; simp, _, Array.getElem?_eq_getElem hlt, fun e he hbe => ?_⟩
      have h1 := List.all_eq_true.1 hA i (List.mem_range.2 hlt)
      simp only [Array.getElem?_eq_getElem hlt, Bool.and_eq_true, beq_iff_eq, List.all_eq_true, Bool.or_eq_true, Bool.not_eq_true', decide_eq_true_eq] at h1
      have := (h1.2 e (by simpa using he)).resolve_left (by simp [hbe])
      rw [hl]; simpa using this
  intro fuel
  induction fuel with
  | zero =>
    intro k listed a w hmk hf hk hs hl h
    obtain rfl : k = ops.size := by omega
    have hr : Region.ready .any ops listed = [] := by
      refine List.eq_nil_iff_forall_not_mem.2 fun i hi => ?_
      have := (ready_at ops.size listed hmk hk hs hl i).1 hi
      omega
    refine ⟨hr, ?_⟩
    rw [List.drop_of_length_le (by simp)] at h
    exact h
  | succ fuel ih =>
    intro k listed a w hmk hf hk hs hl h
    refine ⟨fun hr => ?_, fun i hi => ?_⟩
    · rcases Nat.lt_or_ge k ops.size with hlt | hge
      · have := (ready_at k listed hmk hk hs hl k).2 ⟨rfl, hlt⟩
        rw [hr] at this; cases this
      · rw [List.drop_of_length_le (by simpa using hge)] at h
        exact h
    · obtain ⟨rfl, hlt⟩ := (ready_at k listed hmk hk hs hl i).1 hi
      have hdrop : ops.toList.drop i = ops[i] :: ops.toList.drop (i + 1) := by
        rw [List.drop_eq_getElem_cons (by simpa using hlt)]; simp
      rw [hdrop] at h
      have hl' : ∀ j, (listed.setIfInBounds i true).getD j false = decide (j < i + 1) := by
        intro j
        by_cases hji : i = j
        · subst hji; rw [getD_set_self (by omega)]; simp
        · rw [getD_set_other _ hji, hl]; simp; omega
      have next : ∀ a' w', wpList P ops Q (ops.toList.drop (i + 1)) a' w' → wpAny P .any ops Q fuel (listed.setIfInBounds i true) a' w' := fun a' w' h' =>
        ih (i + 1) _ a' w' (by omega) (by omega) (by omega) (by simpa using hs) hl' h'
      unfold wpList at h
      unfold wpOp
      simp only [Array.getElem?_eq_getElem hlt]
      split
      · rename_i hw
        rw [if_pos hw] at h
        exact h.imp (Oper.wp_mono next) id
      · rename_i hw
        rw [if_neg hw] at h
        exact next _ _ h

theorem wpAny_inv {A : List Nat} {reads : List (Reads × GuardT)} (hA : edgesOk ops A = true) (hP : pairsOk ops A = true) (hR : readsOk ops reads a0.tmps.size = true) (hT : tailOk ops A reads.length = true)
    (hrf : ∀ w, R w w) (htr : ∀ a b c, R a b → R b c → R a c) (hst : ∀ i w w' v, R w w' → V i w v → V i w' v)
    (hops : OpsHold P Q R V a0 w0 0 ops.toList reads)
    (hend : ∀ listed a w, (∀ j, listed.getD j false = decide (j < reads.length)) → Inv ops reads.length R V a0 w0 listed a w → wpList P ops Q (ops.toList.drop reads.length) a w) :
    ∀ (fuel : Nat) (listed : Array Bool) (a : Act) (w : World), listed.toList.count false ≤ fuel → Inv ops reads.length R V a0 w0 listed a w → wpAny P .any ops Q fuel listed a w := by
  have hT0 := hT
  simp only [tailOk, Bool.and_eq_true, decide_eq_true_eq, List.all_eq_true, Bool.or_eq_true, List.mem_range] at hT0
  -- when all of the head has come up
  have fin : ∀ (fuel : Nat) (listed : Array Bool) (a : Act) (w : World), listed.toList.count false ≤ fuel → Inv ops reads.length R V a0 w0 listed a w → (∀ j, j < reads.length → listed.getD j false = true) → wpAny P .any ops Q fuel listed a w := by
    intro fuel listed a w hf hi hall
    have hl : ∀ j, listed.getD j false = decide (j < reads.length) := by
      intro j
      rcases Nat.lt_or_ge j reads.length with h | h
      · rw [hall j h]; simp [h]
      · rw [hi.tail j h]; simp; omega
    refine wpAny_tail hA hT fuel reads.length listed a w (Nat.le_refl _) ?_ hT0.1 hi.lsize hl (hend listed a w hl hi)
    -- those that are not listed are as many as the tail is long
    have : (listed.toList.drop reads.length).count false = listed.size - reads.length := by
      have h1 : listed.toList.drop reads.length = List.replicate (listed.size - reads.length) false := by
        refine List.ext_getElem (by simp) fun j h1 h2 => ?_
        simp only [List.getElem_drop, List.getElem_replicate]
        have h3 : reads.length + j < listed.size := by simp at h1; omega
        have h4 := hi.tail (reads.length + j) (by omega)
        simpa [h3] using h4
      rw [h1, List.count_replicate_self]
    have h2 : (listed.toList.drop reads.length).count false ≤ listed.toList.count false := List.Sublist.count_le _ (List.drop_sublist _ _)
    have := hi.lsize
    omega
  -- before that, nothing of the tail may come up
  have low : ∀ (listed : Array Bool), listed.size = ops.size → Closed ops listed → ∀ i, i ∈ Region.ready .any ops listed → reads.length ≤ i → ∀ j, j < reads.length → listed.getD j false = true := by
    intro listed hs hc i hi hm j hj
    obtain ⟨hun, o, ho, hd⟩ := mem_ready.1 hi
    have hisz := (Array.getElem?_eq_some_iff.1 ho).1
    exact closed_anc hA hc i o ho hd j ((hT0.2 i hisz).resolve_left (by omega) j (by omega))
  intro fuel
  induction fuel with
  | zero =>
    intro listed a w hf hi
    refine fin 0 listed a w hf hi fun j hj => ?_
    have hjs : j < listed.size := by have := hi.lsize; omega
    cases hl : listed.getD j false with
    | true => rfl
    | false =>
      exfalso
      have hv : listed[j] = false := by simpa [hjs] using hl
      have : 0 < listed.toList.count false := List.count_pos_iff.2 (by rw [← hv]; simp)
      omega
  | succ fuel ih =>
    intro listed a w hf hi
    by_cases hall : ∀ j, j < reads.length → listed.getD j false = true
    · exact fin (fuel + 1) listed a w hf hi hall
    refine ⟨fun h => absurd (fun j hj => all_of_ready rfl hA hi.lsize h j (by omega)) hall, fun i hir => ?_⟩
    have him : i < reads.length := by
      rcases Nat.lt_or_ge i reads.length with h | h
      · exact h
      · exact absurd (low listed hi.lsize hi.closed i hir h) hall
    obtain ⟨hun, o, ho, hdeps⟩ := mem_ready.1 hir
    have hisz : i < ops.size := (Array.getElem?_eq_some_iff.1 ho).1
    have hun' : listed.getD i false = false := by rw [getD_irrel (by rw [hi.lsize]; exact hisz) false true]; exact hun
    simp only [readsOk, List.all_eq_true] at hR
    have hRi := hR i (List.mem_range.2 him)
    have hri : reads[i]? = some (reads[i]'(by omega)) := List.getElem?_eq_getElem (by omega)
    generalize hrg : reads[i]'(by omega) = rg at hri
    obtain ⟨r, g⟩ := rg
    rw [ho, hri] at hRi
    simp only [Bool.and_eq_true, List.all_eq_true] at hRi
    obtain ⟨⟨hr, hdst⟩, hg⟩ := hRi
    -- ancestors of i are listed; descendants are not
    have hanc : ∀ k, (A.getD i 0).testBit k = true → listed.getD k false = true := closed_anc hA hi.closed i o ho hdeps
    have hdesc : ∀ j oj, ops[j]? = some oj → (A.getD j 0).testBit i = true → listed.getD j false = false := by
      intro j oj hoj hb
      cases hl : listed.getD j false with
      | false => rfl
      | true =>
        have := closed_anc hA hi.closed j oj hoj (hi.closed j oj hoj hl) i hb
        rw [this] at hun'; cases hun'
    have pair : ∀ i' j' oi' oj', i' < j' → ops[i']? = some oi' → ops[j']? = some oj' → (A.getD j' 0).testBit i' = true ∨ ((∀ t, oi'.dst = some t → t ∉ names ops oj') ∧ ∀ t, oj'.dst = some t → t ∉ oi'.looksAt ops) := by
      intro i' j' oi' oj' hlt hoi hoj
      have h1 := List.all_eq_true.1 hP j' (List.mem_range.2 (Array.getElem?_eq_some_iff.1 hoj).1)
      simp only [hoj, List.all_eq_true, List.mem_range] at h1
      have h2 := h1 i' hlt
      simp only [hoi, Bool.or_eq_true, Bool.and_eq_true] at h2
      rcases h2 with h2 | ⟨h2, h3⟩
      · exact .inl h2
      · refine .inr ⟨fun t ht => ?_, fun t ht => ?_⟩
        · simp [ht] at h2; exact h2
        · simp [ht] at h3; exact h3
    -- the writers that are listed of what i looks at are those ahead of it
    have hlook : ∀ t ∈ o.looksAt ops, lastW ops (fun j => listed.getD j false) t = lastW ops (fun j => decide (j < i)) t := by
      intro t ht
      refine lastW_congr fun j oj hoj hd => ?_
      rcases Nat.lt_trichotomy j i with hlt | rfl | hgt
      · have := (pair j i oj o hlt hoj ho).resolve_right (fun h => h.1 t hd (List.mem_append_right _ ht))
        simp [hlt, hanc j this]
      · simp [hun']
      · have := (pair i j o oj hgt ho hoj).resolve_right (fun h => h.2 t hd ht)
        rw [hdesc j oj hoj this]
        symm; simp; omega
    have hD : Deps V a0 a w r := by
      refine deps_of a w r fun ⟨t, j⟩ hx => ?_
      have h1 := hr (t, j) hx
      simp only [beq_iff_eq, List.contains_iff_mem] at h1
      have h2 := hi.tmps t
      rw [hlook t h1.1, h1.2] at h2
      cases j <;> exact h2
    have hgoal := opsHold_at ops.toList reads 0 i o r g hops (by simpa using ho) hri a w hi.step hD
    rw [Nat.zero_add] at hgoal
    -- behind operation i
    have next : ∀ v w', R w w' → V i w' v → wpAny P .any ops Q fuel (listed.setIfInBounds i true) (a.put o.dst v) w' := by
      intro v w' hww hv
      refine ih _ _ _ (unlisted_set hun fuel hf) ⟨htr _ _ _ hi.step hww, ?_, ?_, by simp [hi.lsize], ?_, fun j hj => ?_, ?_⟩
      · cases hd : o.dst <;> simp [Act.put, hi.size]
      · cases hd : o.dst <;> simp [Act.put, hi.defers]
      · intro j oj hoj hl e he hb
        by_cases hji : i = j
        · subst hji
          rw [ho] at hoj
          obtain rfl := Option.some.inj hoj
          by_cases hei : i = e.on
          · rw [← hei]; exact getD_set_self (by rw [hi.lsize]; exact hisz) _
          · rw [getD_set_other _ hei]; exact hdeps e he hb
        · rw [getD_set_other _ hji] at hl
          by_cases hei : i = e.on
          · rw [← hei]; exact getD_set_self (by rw [hi.lsize]; exact hisz) _
          · rw [getD_set_other _ hei]; exact hi.closed j oj hoj hl e he hb
      · rw [getD_set_other _ (by omega)]; exact hi.tail j hj
      · intro t
        by_cases hd : o.dst = some t
        · rw [lastW_set ho hd (p := fun j => (listed.setIfInBounds i true).getD j false) (getD_set_self (by rw [hi.lsize]; exact hisz) _) (fun j oj hoj hdj hlt => by
            have := (pair i j o oj hlt ho hoj).resolve_right (fun h => h.1 t hd (by simp [names, hdj]))
            rw [getD_set_other _ (by omega)]
            exact hdesc j oj hoj this)]
          have htn : t < a.tmps.size := by rw [hi.size]; simpa [hd] using hdst
          simp only [hd, Act.put]
          simpa [htn] using hv
        · rw [lastW_congr (q := fun j => listed.getD j false) (fun j oj hoj hdj => by
            by_cases hji : i = j
            · subst hji; rw [ho] at hoj; obtain rfl := Option.some.inj hoj; exact absurd hdj hd
            · exact getD_set_other _ hji)]
          have h2 := hi.tmps t
          have same : (a.put o.dst v).tmps[t]?.getD undef = a.tmps[t]?.getD undef := by
            cases hdd : o.dst with
            | none => rfl
            | some d =>
              have hne : d ≠ t := fun e => hd (by rw [hdd, e])
              simp [Act.put, Array.getElem?_setIfInBounds_ne hne]
          rw [same]
          revert h2
          cases lastW ops (fun j => listed.getD j false) t with
          | none => exact id
          | some j => exact hst j _ _ _ hww
    unfold wpOp
    simp only [ho]
    cases hgg : o.guard with
    | none =>
      rw [hgg] at hg
      cases g with
      | some _ => simp at hg
      | none =>
        rw [if_pos (by simp [Region.wanted, hgg])]
        exact .inl (hgoal _ next)
    | some kw =>
      obtain ⟨k, want⟩ := kw
      rw [hgg] at hg
      cases g with
      | none => simp at hg
      | some tw =>
        obtain ⟨t, want'⟩ := tw
        simp only [Bool.and_eq_true, beq_iff_eq] at hg
        obtain ⟨rfl, hk⟩ := hg
        have hw := wanted_iff (a := a) hgg hk
        by_cases hv : a.tmps[t]?.getD undef = .bool want
        · rw [if_pos (hw.2 hv)]
          exact .inl (hgoal.1 hv _ next)
        · rw [if_neg (fun h => hv (hw.1 h))]
          exact next undef w (hrf w) (hgoal.2 hv)

theorem endHold_at (v : Nat → Value) (w : World) (hR : R w0 w) : ∀ (fin : List (Tmp × Nat)) (F : World → Prop) (a : Act), EndHold R V w0 E F fin a → F w → (∀ x ∈ fin, V x.2 w (v x.1)) →
    E (fin.foldl (fun a x => a.put (some x.1) (v x.1)) a) w
  | [], _, _, h, hF, _ => h w hR hF
  | x :: fin, _, _, h, hF, hx => endHold_at v w hR fin _ _ (h (v x.1)) ⟨hF, hx x (by simp)⟩ (fun y hy => hx y (by simp [hy]))

theorem foldl_put (v : Nat → Value) : ∀ (fin : List (Tmp × Nat)) (a : Act),
    (fin.foldl (fun a x => a.put (some x.1) (v x.1)) a).tmps.size = a.tmps.size ∧ (fin.foldl (fun a x => a.put (some x.1) (v x.1)) a).defers = a.defers ∧
    ∀ t, t < a.tmps.size → (fin.foldl (fun a x => a.put (some x.1) (v x.1)) a).tmps[t]? = if t ∈ fin.map (·.1) then some (v t) else a.tmps[t]?
  | [], a => ⟨rfl, rfl, fun t _ => by simp⟩
  | x :: fin, a => by
    have h := foldl_put v fin (a.put (some x.1) (v x.1))
    simp only [List.foldl_cons]
    have hs : (a.put (some x.1) (v x.1)).tmps.size = a.tmps.size := by simp [Act.put]
    refine ⟨h.1.trans hs, h.2.1.trans rfl, fun t ht => ?_⟩
    rw [h.2.2 t (by rw [hs]; exact ht)]
    by_cases hm : t ∈ fin.map (·.1)
    · rw [if_pos hm, if_pos (by simp only [List.map_cons]; exact List.mem_cons_of_mem _ hm)]
    · rw [if_neg hm]
      by_cases hx : t = x.1
      · subst hx
        rw [if_pos (by simp)]
        simp [Act.put, ht]
      · rw [if_neg (by simp only [List.map_cons, List.mem_cons, not_or]; exact ⟨hx, hm⟩)]
        simp [Act.put, Array.getElem?_setIfInBounds_ne (Ne.symm hx)]

/-- **A region that draws its order, each operation by itself.** R: what may become of the world (reflexive, transitive); V i: what operation i leaves in its temporary (kept by R). Behind the head (as many operations as 'reads' has) the tail goes in the text's order. -/
theorem wp_region_each {id : Nat} {n : Nat} (V : Nat → World → Value → Prop) (R : World → World → Prop) (reads : List (Reads × GuardT)) (fin : List (Tmp × Nat)) {l : List Oper} (tail : List Oper) (hn : a0.tmps.size = n) (hk : regionOk l.toArray reads fin n = true) (hd : l.drop reads.length = tail) (hm : P.follows .mixedOrders = true)
    (hrf : ∀ w, R w w) (htr : ∀ a b c, R a b → R b c → R a c) (hst : ∀ i w w' v, R w w' → V i w v → V i w' v)
    (hops : OpsHold P Q R V a0 w0.drew 0 l reads)
    (hend : EndHold R V w0.drew (wpList P l.toArray Q tail) (fun _ => True) fin a0) :
    (Code.region id l.toArray true).wp P Q a0 w0 := by
  subst hn
  subst hd
  simp only [regionOk, Bool.and_eq_true] at hk
  obtain ⟨⟨⟨⟨hA, hP⟩, hR⟩, hF⟩, hT⟩ := hk
  refine wp_region_any hm ?_
  refine wpAny_inv (w0 := w0.drew) hA hP hR hT hrf htr hst hops ?_ _ _ _ _ (Nat.le_trans List.count_le_length (by simp)) ⟨hrf _, rfl, rfl, by simp, ?_, ?_, ?_⟩
  · intro listed a w hl hi
    simp only [finalOk, Bool.and_eq_true, List.all_eq_true, beq_iff_eq] at hF
    have hF2 : ∀ (j : Nat) (o : Oper) (t : Tmp), l.toArray[j]? = some o → j < reads.length → o.dst = some t → t ∈ fin.map (·.1) := by
      intro j o t ho hj hd
      have := hF.2 o (by
        have h1 : (l.take reads.length)[j]? = some o := by rw [List.getElem?_take_of_lt hj]; simpa using ho
        exact List.mem_of_getElem? h1)
      rw [hd] at this
      simpa using this
    have hlast : ∀ t, lastW l.toArray (fun j => listed.getD j false) t = lastW l.toArray (fun j => decide (j < reads.length)) t := fun t =>
      lastW_congr fun j o ho _ => hl j
    have e : fin.foldl (fun a' x => a'.put (some x.1) ((fun t => a.tmps[t]?.getD undef) x.1)) a0 = a := by
      have h := foldl_put (fun t => a.tmps[t]?.getD undef) fin a0
      have hd : (fin.foldl (fun a' x => a'.put (some x.1) ((fun t => a.tmps[t]?.getD undef) x.1)) a0).defers = a.defers := h.2.1.trans hi.defers.symm
      have ht : (fin.foldl (fun a' x => a'.put (some x.1) ((fun t => a.tmps[t]?.getD undef) x.1)) a0).tmps = a.tmps := by
        refine Array.ext_getElem? fun t => ?_
        rcases Nat.lt_or_ge t a0.tmps.size with hlt | hge
        · rw [h.2.2 t hlt]
          have hat : a.tmps[t]? = some (a.tmps[t]?.getD undef) := by
            have : t < a.tmps.size := by rw [hi.size]; exact hlt
            simp [this]
          by_cases hm : t ∈ fin.map (·.1)
          · rw [if_pos hm]; exact hat.symm
          · rw [if_neg hm]
            have h2 := hi.tmps t
            have hnone : lastW l.toArray (fun j => listed.getD j false) t = none := by
              unfold lastW
              rw [List.find?_eq_none]
              intro j _
              cases ho : l.toArray[j]? with
              | none => simp
              | some o =>
                by_cases hdo : o.dst = some t
                · rcases Nat.lt_or_ge j reads.length with hj | hj
                  · exact absurd (hF2 j o t ho hj hdo) hm
                  · simp only [hi.tail j hj]; simp
                · simp [hdo]
            rw [hnone] at h2
            rw [hat, h2]
            simp [hlt]
        · rw [Array.getElem?_eq_none (by rw [h.1]; exact hge), Array.getElem?_eq_none (by rw [hi.size]; exact hge)]
      generalize fin.foldl (fun a' x => a'.put (some x.1) ((fun t => a.tmps[t]?.getD undef) x.1)) a0 = z at hd ht
      cases z; cases a; simp_all
    have := endHold_at (fun t => a.tmps[t]?.getD undef) w hi.step fin _ a0 hend trivial (fun x hx => by
      have h1 := hF.1 x hx
      have h2 := hi.tmps x.1
      rw [hlast, h1] at h2
      exact h2)
    rw [e] at this
    exact this
  · intro j o ho hl
    exfalso
    have hj : j < l.length := by simpa using (Array.getElem?_eq_some_iff.1 ho).1
    simp [hj] at hl
  · intro j _
    rcases Nat.lt_or_ge j l.length with h | h
    · simp [h]
    · simp [h]
  · intro t
    have : lastW l.toArray (fun j => (Array.replicate l.toArray.size false).getD j false) t = none := by
      unfold lastW
      rw [List.find?_eq_none]
      intro j hj
      have hj : j < l.length := by simpa using hj
      simp [hj]
    rw [this]

/-- the predicates as a list -/
def at_ (Vs : List (World → Value → Prop)) (i : Nat) : World → Value → Prop := Vs.getD i (fun _ _ => True)
def Stable (R : World → World → Prop) : List (World → Value → Prop) → Prop
  | [] => True
  | V :: Vs => (∀ w w' v, R w w' → V w v → V w' v) ∧ Stable R Vs
theorem stable_at : ∀ (Vs : List (World → Value → Prop)), Stable R Vs → ∀ i w w' v, R w w' → at_ Vs i w v → at_ Vs i w' v
  | [], _, _, _, _, _, _, _ => trivial
  | _ :: _, h, 0, w, w', v, hr, hv => h.1 w w' v hr hv
  | _ :: Vs, h, i + 1, w, w', v, hr, hv => stable_at Vs h.2 i w w' v hr hv
end

/-- the world has only grown -/
def Grew (w w' : World) : Prop := Below w.heap.size w w'
theorem Grew.refl (w : World) : Grew w w := Below.refl _ _
theorem Grew.trans {a b c : World} (h : Grew a b) (k : Grew b c) : Grew a c := by
  have k' : Below a.heap.size b c := Below.mono k h.size
  exact Below.trans h k'
theorem Grew.drew (w : World) : Grew w w.drew := ⟨rfl, rfl, rfl, Nat.le_refl _, fun _ _ => rfl⟩
theorem Grew.drewN (w : World) (n : Nat) : Grew w (w.drewN n) := ⟨rfl, rfl, rfl, Nat.le_refl _, fun _ _ => rfl⟩
theorem Grew.alloc (w : World) (o : Obj) : Grew w (w.alloc o) := (Below.refl _ _).alloc (Nat.le_refl _) o

/-- exactly this value -/
def Is (x : Value) : World → Value → Prop := fun _ v => v = x
theorem Is.stable {R : World → World → Prop} (x : Value) : ∀ w w' v, R w w' → Is x w v → Is x w' v := fun _ _ _ _ h => h
/-- a call's end: it returns what V says, and the world has only grown -/
def Tells (w : World) (V : World → Value → Prop) (e : Ending) (w' : World) : Prop := ∃ v, e = .returned v ∧ V w' v ∧ Grew w w'
theorem tells_is {P : Program} {f : FuncId} {args : Array Value} {w : World} {x : Value} (h : Calls P f args w fun e w' => e = .returned x ∧ Below w.heap.size w w') : Calls P f args w (Tells w (Is x)) :=
  h.mono fun _ _ ⟨he, hw⟩ => ⟨x, he, rfl, hw⟩
theorem is_tells {P : Program} {f : FuncId} {args : Array Value} {w : World} {x : Value} (h : Calls P f args w (Tells w (Is x))) : Calls P f args w fun e w' => e = .returned x ∧ Below w.heap.size w w' :=
  h.mono fun _ _ ⟨_, he, hx, hw⟩ => ⟨hx ▸ he, hw⟩

section
variable {R : World → World → Prop} {V : Nat → World → Value → Prop} {w0 : World} {E : Act → World → Prop}
theorem endHold_mono : ∀ (fin : List (Tmp × Nat)) (F F' : World → Prop) (a : Act), (∀ w, F' w → F w) → EndHold R V w0 E F fin a → EndHold R V w0 E F' fin a
  | [], _, _, _, h, k => fun w hR hF => k w hR (h w hF)
  | _ :: fin, _, _, _, h, k => fun v => endHold_mono fin _ _ _ (fun w ⟨h1, h2⟩ => ⟨h w h1, h2⟩) (k v)
theorem endHold_never : ∀ (fin : List (Tmp × Nat)) (F : World → Prop) (a : Act), (∀ w, ¬ F w) → EndHold R V w0 E F fin a
  | [], _, _, h => fun w _ hF => absurd hF (h w)
  | _ :: fin, _, _, h => fun _ => endHold_never fin _ _ (fun w ⟨h1, _⟩ => h w h1)
/-- what comes later, closed to the eye -/
structure Later (E : Act → World → Prop) (a : Act) (w : World) : Prop where
  now : E a w
theorem endHold_later : ∀ (fin : List (Tmp × Nat)) (F : World → Prop) (a : Act), EndHold R V w0 (Later E) F fin a → EndHold R V w0 E F fin a
  | [], _, _, k => fun w hR hF => (k w hR hF).now
  | _ :: fin, _, _, k => fun v => endHold_later fin _ _ (k v)
/-- temporaries whose values are known -/
def AllIs (V : Nat → World → Value → Prop) : List (Tmp × Nat) → List Value → Prop
  | [], [] => True
  | (_, j) :: fin, x :: xs => V j = Is x ∧ AllIs V fin xs
  | _, _ => False
def putEach : List (Tmp × Nat) → List Value → Act → Act
  | (t, _) :: fin, x :: xs, a => putEach fin xs (a.put (some t) x)
  | _, _, a => a
theorem end_all : ∀ {fin : List (Tmp × Nat)} {xs : List Value} {F : World → Prop} {a : Act}, AllIs V fin xs → (∀ w, R w0 w → F w → E (putEach fin xs a) w) → EndHold R V w0 E F fin a
  | [], [], _, _, _, k => k
  | (t, j) :: fin, x :: xs, F, a, h, k => fun v => by
    by_cases e : v = x
    · subst e
      exact endHold_mono fin _ _ _ (fun _ h => h.1) (end_all h.2 k)
    · exact endHold_never fin _ _ (fun w ⟨_, h2⟩ => e (by rw [h.1] at h2; exact h2))
  | [], _ :: _, _, _, h, _ => h.elim
  | _ :: _, [], _, _, h, _ => h.elim
end
def dropN {α β : Type} : List α → List β → List β
  | [], l => l
  | _ :: _, [] => []
  | _ :: r, _ :: l => dropN r l
theorem dropN_eq {α β : Type} : ∀ (r : List α) (l : List β), l.drop r.length = dropN r l
  | [], l => by simp [dropN]
  | _ :: _, [] => by simp [dropN]
  | _ :: r, _ :: l => by simp [dropN, dropN_eq r l]

/-- the rule for a region whose world only grows, its predicates as a list -/
theorem region_grew {P : Program} {Q : Exit → Act → World → Prop} {a0 : Act} {w0 : World} {id : Nat} {n : Nat} {l : List Oper} (Vs : List (World → Value → Prop)) (reads : List (Reads × GuardT)) (fin : List (Tmp × Nat))
    (hn : a0.tmps.size = n) (hk : regionOk l.toArray reads fin n = true) (hm : P.follows .mixedOrders = true)
    (hst : Stable Grew Vs)
    (hops : OpsHold P Q Grew (at_ Vs) a0 w0.drew 0 l reads)
    (hend : EndHold Grew (at_ Vs) w0.drew (Later (wpList P l.toArray Q (dropN reads l))) (fun _ => True) fin a0) :
    (Code.region id l.toArray true).wp P Q a0 w0 :=
  wp_region_each (at_ Vs) Grew reads fin _ hn hk (dropN_eq reads l) hm Grew.refl (fun _ _ _ => Grew.trans) (stable_at Vs hst) hops (endHold_later _ _ _ hend)
/-! ### one operation that turns what was there -/

/-- float: it doesn't look at the world; plain: it comes before the big one; big: it may turn what was there -/
inductive Phase where
  | float | plain | big
  deriving DecidableEq
def phaseOk (A : List Nat) (ks : List Phase) (m : Nat) : Bool :=
  ks.length == m && (List.range m).all fun j => match ks[j]? with
    | some .big => (List.range m).all fun i => i == j || ks[i]? == some .float || (A.getD j 0).testBit i
    | _ => true

section
variable (P : Program) (Q : Exit → Act → World → Prop) (R Rp : World → World → Prop) (V : Nat → World → Value → Prop) (a0 : Act) (w0 : World) (E : Act → World → Prop)
def PhGoal (o : Oper) (g : GuardT) (i : Nat) (r : Reads) : Phase → Prop
  | .plain => ∀ a w, R w0 w → Deps V a0 a w r → OpGoal P Q R V o g i a w
  | .float => ∀ a w, Deps V a0 a w r → OpGoal P Q (fun w w' => w' = w) V o g i a w
  | .big => o.guard = none ∧ ∀ a w, R w0 w → Deps V a0 a w r → ∀ K : Act → World → Prop, (∀ v w', Rp w w' → V i w' v → K (a.put o.dst v) w') → o.wp P a w K Q
def PhHold : Nat → List Oper → List (Reads × GuardT) → List Phase → Prop
  | i, o :: os, (r, g) :: rs, k :: ks => PhGoal P Q R Rp V a0 w0 o g i r k ∧ PhHold (i + 1) os rs ks
  | _, _, _, _ => True
end

section
variable {P : Program} {ops : Array Oper} {Q : Exit → Act → World → Prop} {R Rp : World → World → Prop} {V : Nat → World → Value → Prop} {a0 : Act} {w0 : World} {E : Act → World → Prop}
theorem phHold_at : ∀ (os : List Oper) (rs : List (Reads × GuardT)) (ks : List Phase) (k i : Nat) (o : Oper) (r : Reads) (g : GuardT) (p : Phase), PhHold P Q R Rp V a0 w0 k os rs ks → os[i]? = some o → rs[i]? = some (r, g) → ks[i]? = some p →
    PhGoal P Q R Rp V a0 w0 o g (k + i) r p
  | [], _, _, _, i, o, r, g, p, _, ho, _, _ => by simp at ho
  | o' :: os, [], _, _, i, o, r, g, p, _, _, hr, _ => by simp at hr
  | o' :: os, (r', g') :: rs, [], _, i, o, r, g, p, _, _, _, hk => by simp at hk
  | o' :: os, (r', g') :: rs, p' :: ks, k, 0, o, r, g, p, h, ho, hr, hk => by
    simp at ho hr hk
    obtain ⟨rfl, rfl⟩ := hr
    subst ho
    subst hk
    exact h.1
  | o' :: os, (r', g') :: rs, p' :: ks, k, i + 1, o, r, g, p, h, ho, hr, hk => by
    have := phHold_at os rs ks (k + 1) i o r g p h.2 (by simpa using ho) (by simpa using hr) (by simpa using hk)
    rw [show k + 1 + i = k + (i + 1) from by omega] at this
    exact this
/-- the big one has come -/
def BigIn (ks : List Phase) (listed : Array Bool) : Prop := ∃ p, ks[p]? = some .big ∧ listed.getD p false = true
/-- what is known between two operations -/
structure InvB (ops : Array Oper) (m : Nat) (R Rp : World → World → Prop) (V : Nat → World → Value → Prop) (ks : List Phase) (a0 : Act) (w0 : World) (listed : Array Bool) (a : Act) (w : World) : Prop where
  early : ¬ BigIn ks listed → R w0 w
  late : BigIn ks listed → ∃ w1, R w0 w1 ∧ Rp w1 w
  size : a.tmps.size = a0.tmps.size
  defers : a.defers = a0.defers
  lsize : listed.size = ops.size
  closed : Closed ops listed
  tail : ∀ j, m ≤ j → listed.getD j false = false
  tmps : ∀ t, match lastW ops (fun j => listed.getD j false) t with
    | some j => V j w (a.tmps[t]?.getD undef)
    | none => a.tmps[t]?.getD undef = a0.tmps[t]?.getD undef
theorem lastW_listed {ops : Array Oper} {p : Nat → Bool} {t : Tmp} {j : Nat} (h : lastW ops p t = some j) : p j = true := by
  unfold lastW at h
  have := List.find?_some h
  simp only [Bool.and_eq_true] at this
  exact this.1
theorem wpAny_invB {A : List Nat} {reads : List (Reads × GuardT)} {ks : List Phase} (hA : edgesOk ops A = true) (hP : pairsOk ops A = true) (hR : readsOk ops reads a0.tmps.size = true) (hT : tailOk ops A reads.length = true)
    (hrf : ∀ w, R w w) (htr : ∀ a b c, R a b → R b c → R a c) (hK : phaseOk A ks reads.length = true)
    (hst : ∀ i, ks[i]? ≠ some .big → ∀ w w' v, R w w' ∨ Rp w w' → V i w v → V i w' v)
    (hops : PhHold P Q R Rp V a0 w0 0 ops.toList reads ks)
    (hend : ∀ listed a w, (∀ j, listed.getD j false = decide (j < reads.length)) → InvB ops reads.length R Rp V ks a0 w0 listed a w → wpList P ops Q (ops.toList.drop reads.length) a w) :
    ∀ (fuel : Nat) (listed : Array Bool) (a : Act) (w : World), listed.toList.count false ≤ fuel → InvB ops reads.length R Rp V ks a0 w0 listed a w → wpAny P .any ops Q fuel listed a w := by
  have hT0 := hT
  simp only [tailOk, Bool.and_eq_true, decide_eq_true_eq, List.all_eq_true, Bool.or_eq_true, List.mem_range] at hT0
  -- when all of the head has come up
  have fin : ∀ (fuel : Nat) (listed : Array Bool) (a : Act) (w : World), listed.toList.count false ≤ fuel → InvB ops reads.length R Rp V ks a0 w0 listed a w → (∀ j, j < reads.length → listed.getD j false = true) → wpAny P .any ops Q fuel listed a w := by
    intro fuel listed a w hf hi hall
    have hl : ∀ j, listed.getD j false = decide (j < reads.length) := by
      intro j
      rcases Nat.lt_or_ge j reads.length with h | h
      · rw [hall j h]; simp [h]
      · rw [hi.tail j h]; simp; omega
    refine wpAny_tail hA hT fuel reads.length listed a w (Nat.le_refl _) ?_ hT0.1 hi.lsize hl (hend listed a w hl hi)
    -- those that are not listed are as many as the tail is long
    have : (listed.toList.drop reads.length).count false = listed.size - reads.length := by
      have h1 : listed.toList.drop reads.length = List.replicate (listed.size - reads.length) false := by
        refine List.ext_getElem (by simp) fun j h1 h2 => ?_
        simp only [List.getElem_drop, List.getElem_replicate]
        have h3 : reads.length + j < listed.size := by simp at h1; omega
        have h4 := hi.tail (reads.length + j) (by omega)
        simpa [h3] using h4
      rw [h1, List.count_replicate_self]
    have h2 : (listed.toList.drop reads.length).count false ≤ listed.toList.count false := List.Sublist.count_le _ (List.drop_sublist _ _)
    have := hi.lsize
    omega
  -- before that, nothing of the tail may come up
  have low : ∀ (listed : Array Bool), listed.size = ops.size → Closed ops listed → ∀ i, i ∈ Region.ready .any ops listed → reads.length ≤ i → ∀ j, j < reads.length → listed.getD j false = true := by
    intro listed hs hc i hi hm j hj
    obtain ⟨hun, o, ho, hd⟩ := mem_ready.1 hi
    have hisz := (Array.getElem?_eq_some_iff.1 ho).1
    exact closed_anc hA hc i o ho hd j ((hT0.2 i hisz).resolve_left (by omega) j (by omega))
  intro fuel
  induction fuel with
  | zero =>
    intro listed a w hf hi
    refine fin 0 listed a w hf hi fun j hj => ?_
    have hjs : j < listed.size := by have := hi.lsize; omega
    cases hl : listed.getD j false with
    | true => rfl
    | false =>
      exfalso
      have hv : listed[j] = false := by simpa [hjs] using hl
      have : 0 < listed.toList.count false := List.count_pos_iff.2 (by rw [← hv]; simp)
      omega
  | succ fuel ih =>
    intro listed a w hf hi
    by_cases hall : ∀ j, j < reads.length → listed.getD j false = true
    · exact fin (fuel + 1) listed a w hf hi hall
    refine ⟨fun h => absurd (fun j hj => all_of_ready rfl hA hi.lsize h j (by omega)) hall, fun i hir => ?_⟩
    have him : i < reads.length := by
      rcases Nat.lt_or_ge i reads.length with h | h
      · exact h
      · exact absurd (low listed hi.lsize hi.closed i hir h) hall
    obtain ⟨hun, o, ho, hdeps⟩ := mem_ready.1 hir
    have hisz : i < ops.size := (Array.getElem?_eq_some_iff.1 ho).1
    have hun' : listed.getD i false = false := by rw [getD_irrel (by rw [hi.lsize]; exact hisz) false true]; exact hun
    simp only [readsOk, List.all_eq_true] at hR
    have hRi := hR i (List.mem_range.2 him)
    have hri : reads[i]? = some (reads[i]'(by omega)) := List.getElem?_eq_getElem (by omega)
    generalize hrg : reads[i]'(by omega) = rg at hri
    obtain ⟨r, g⟩ := rg
    rw [ho, hri] at hRi
    simp only [Bool.and_eq_true, List.all_eq_true] at hRi
    obtain ⟨⟨hr, hdst⟩, hg⟩ := hRi
    -- ancestors of i are listed; descendants are not
    have hanc : ∀ k, (A.getD i 0).testBit k = true → listed.getD k false = true := closed_anc hA hi.closed i o ho hdeps
    have hdesc : ∀ j oj, ops[j]? = some oj → (A.getD j 0).testBit i = true → listed.getD j false = false := by
      intro j oj hoj hb
      cases hl : listed.getD j false with
      | false => rfl
      | true =>
        have := closed_anc hA hi.closed j oj hoj (hi.closed j oj hoj hl) i hb
        rw [this] at hun'; cases hun'
    have pair : ∀ i' j' oi' oj', i' < j' → ops[i']? = some oi' → ops[j']? = some oj' → (A.getD j' 0).testBit i' = true ∨ ((∀ t, oi'.dst = some t → t ∉ names ops oj') ∧ ∀ t, oj'.dst = some t → t ∉ oi'.looksAt ops) := by
      intro i' j' oi' oj' hlt hoi hoj
      have h1 := List.all_eq_true.1 hP j' (List.mem_range.2 (Array.getElem?_eq_some_iff.1 hoj).1)
      simp only [hoj, List.all_eq_true, List.mem_range] at h1
      have h2 := h1 i' hlt
      simp only [hoi, Bool.or_eq_true, Bool.and_eq_true] at h2
      rcases h2 with h2 | ⟨h2, h3⟩
      · exact .inl h2
      · refine .inr ⟨fun t ht => ?_, fun t ht => ?_⟩
        · simp [ht] at h2; exact h2
        · simp [ht] at h3; exact h3
    -- the writers that are listed of what i looks at are those ahead of it
    have hlook : ∀ t ∈ o.looksAt ops, lastW ops (fun j => listed.getD j false) t = lastW ops (fun j => decide (j < i)) t := by
      intro t ht
      refine lastW_congr fun j oj hoj hd => ?_
      rcases Nat.lt_trichotomy j i with hlt | rfl | hgt
      · have := (pair j i oj o hlt hoj ho).resolve_right (fun h => h.1 t hd (List.mem_append_right _ ht))
        simp [hlt, hanc j this]
      · simp [hun']
      · have := (pair i j o oj hgt ho hoj).resolve_right (fun h => h.2 t hd ht)
        rw [hdesc j oj hoj this]
        symm; simp; omega
    have hD : Deps V a0 a w r := by
      refine deps_of a w r fun ⟨t, j⟩ hx => ?_
      have h1 := hr (t, j) hx
      simp only [beq_iff_eq, List.contains_iff_mem] at h1
      have h2 := hi.tmps t
      rw [hlook t h1.1, h1.2] at h2
      cases j <;> exact h2
    simp only [phaseOk, Bool.and_eq_true, beq_iff_eq, List.all_eq_true, List.mem_range] at hK
    have hki : ks[i]? = some (ks[i]'(by omega)) := List.getElem?_eq_getElem (by omega)
    generalize hkk : ks[i]'(by omega) = kd at hki
    have hgoal := phHold_at ops.toList reads ks 0 i o r g kd hops (by simpa using ho) hri hki
    rw [Nat.zero_add] at hgoal
    have big_all : ∀ p, ks[p]? = some .big → ∀ j, j < reads.length → j ≠ p → ks[j]? = some .float ∨ (A.getD p 0).testBit j = true := by
      intro p hp j hj hne
      have hpl : p < reads.length := by
        have := (List.getElem?_eq_some_iff.1 hp).1
        omega
      have := hK.2 p hpl
      rw [hp] at this
      simp only [List.all_eq_true, List.mem_range, Bool.or_eq_true, beq_iff_eq] at this
      rcases this j hj with (h | h) | h
      · exact absurd h hne
      · exact .inl h
      · exact .inr h
    have noBig : kd ≠ .float → ¬ BigIn ks listed := by
      rintro hne ⟨p, hp, hl⟩
      by_cases hip : i = p
      · subst hip; rw [hun'] at hl; cases hl
      · rcases big_all p hp i him hip with h | h
        · rw [hki] at h; exact hne (Option.some.inj h)
        · have hpo : p < ops.size := by
            rcases Nat.lt_or_ge p ops.size with h' | h'
            · exact h'
            · rw [show listed.getD p false = false from by simp [Array.getElem?_eq_none (show listed.size ≤ p by rw [hi.lsize]; exact h')]] at hl; cases hl
          have := closed_anc hA hi.closed p _ (Array.getElem?_eq_getElem hpo) (hi.closed p _ (Array.getElem?_eq_getElem hpo) hl) i h
          rw [this] at hun'; cases hun'
    have bigSet : ∀ {k : Phase}, kd = k → k ≠ .big → (BigIn ks (listed.setIfInBounds i true) ↔ BigIn ks listed) := by
      intro k hk hne
      constructor
      · rintro ⟨p, hp, hl⟩
        by_cases hip : i = p
        · subst hip; rw [hki] at hp; exact absurd (hk.symm.trans (Option.some.inj hp)) hne
        · rw [getD_set_other _ hip] at hl; exact ⟨p, hp, hl⟩
      · rintro ⟨p, hp, hl⟩
        by_cases hip : i = p
        · subst hip; rw [hun'] at hl; cases hl
        · exact ⟨p, hp, by rw [getD_set_other _ hip]; exact hl⟩
    have notBig : ∀ j, listed.getD j false = true → ¬ BigIn ks listed → ks[j]? ≠ some .big := fun j hl hb h => hb ⟨j, h, hl⟩
    -- behind operation i
    have next : ∀ v w', (∀ j, j ≠ i → listed.getD j false = true → ∀ u, V j w u → V j w' u) → (¬ BigIn ks (listed.setIfInBounds i true) → R w0 w') → (BigIn ks (listed.setIfInBounds i true) → ∃ w1, R w0 w1 ∧ Rp w1 w') → V i w' v → wpAny P .any ops Q fuel (listed.setIfInBounds i true) (a.put o.dst v) w' := by
      intro v w' hww he hl hv
      refine ih _ _ _ (unlisted_set hun fuel hf) ⟨he, hl, ?_, ?_, by simp [hi.lsize], ?_, fun j hj => ?_, ?_⟩
      · cases hd : o.dst <;> simp [Act.put, hi.size]
      · cases hd : o.dst <;> simp [Act.put, hi.defers]
      · intro j oj hoj hl e he hb
        by_cases hji : i = j
        · subst hji
          rw [ho] at hoj
          obtain rfl := Option.some.inj hoj
          by_cases hei : i = e.on
          · rw [← hei]; exact getD_set_self (by rw [hi.lsize]; exact hisz) _
          · rw [getD_set_other _ hei]; exact hdeps e he hb
        · rw [getD_set_other _ hji] at hl
          by_cases hei : i = e.on
          · rw [← hei]; exact getD_set_self (by rw [hi.lsize]; exact hisz) _
          · rw [getD_set_other _ hei]; exact hi.closed j oj hoj hl e he hb
      · rw [getD_set_other _ (by omega)]; exact hi.tail j hj
      · intro t
        by_cases hd : o.dst = some t
        · rw [lastW_set ho hd (p := fun j => (listed.setIfInBounds i true).getD j false) (getD_set_self (by rw [hi.lsize]; exact hisz) _) (fun j oj hoj hdj hlt => by
            have := (pair i j o oj hlt ho hoj).resolve_right (fun h => h.1 t hd (by simp [names, hdj]))
            rw [getD_set_other _ (by omega)]
            exact hdesc j oj hoj this)]
          have htn : t < a.tmps.size := by rw [hi.size]; simpa [hd] using hdst
          simp only [hd, Act.put]
          simpa [htn] using hv
        · rw [lastW_congr (q := fun j => listed.getD j false) (fun j oj hoj hdj => by
            by_cases hji : i = j
            · subst hji; rw [ho] at hoj; obtain rfl := Option.some.inj hoj; exact absurd hdj hd
            · exact getD_set_other _ hji)]
          have h2 := hi.tmps t
          have same : (a.put o.dst v).tmps[t]?.getD undef = a.tmps[t]?.getD undef := by
            cases hdd : o.dst with
            | none => rfl
            | some d =>
              have hne : d ≠ t := fun e => hd (by rw [hdd, e])
              simp [Act.put, Array.getElem?_setIfInBounds_ne hne]
          rw [same]
          revert h2
          cases hlw : lastW ops (fun j => listed.getD j false) t with
          | none => exact id
          | some j =>
            have hlj := lastW_listed hlw
            refine hww j ?_ hlj _
            intro e
            subst e
            rw [hun'] at hlj
            cases hlj
    unfold wpOp
    simp only [ho]
    cases kd with
    | big =>
      obtain ⟨hgn, hgoal⟩ := hgoal
      have hnb := noBig (by simp)
      rw [if_pos (by simp [Region.wanted, hgn])]
      refine .inl (hgoal a w (hi.early hnb) hD _ fun v w' hrp hv => ?_)
      have hbig : BigIn ks (listed.setIfInBounds i true) := ⟨i, hki, getD_set_self (by rw [hi.lsize]; exact hisz) _⟩
      exact next v w' (fun j _ hl u hu => hst j (notBig j hl hnb) w w' u (.inr hrp) hu) (fun h => absurd hbig h) (fun _ => ⟨w, hi.early hnb, hrp⟩) hv
    | plain =>
      have hnb := noBig (by simp)
      have hgoal := hgoal a w (hi.early hnb) hD
      have hs := bigSet rfl (by simp)
      have nx : ∀ v w', R w w' → V i w' v → wpAny P .any ops Q fuel (listed.setIfInBounds i true) (a.put o.dst v) w' := fun v w' hr hv =>
        next v w' (fun j _ hl u hu => hst j (notBig j hl hnb) w w' u (.inl hr) hu) (fun _ => htr _ _ _ (hi.early hnb) hr) (fun h => absurd (hs.1 h) hnb) hv
      cases hgg : o.guard with
      | none =>
        rw [hgg] at hg
        cases g with
        | some _ => simp at hg
        | none =>
          rw [if_pos (by simp [Region.wanted, hgg])]
          exact .inl (hgoal _ nx)
      | some kw =>
        obtain ⟨k, want⟩ := kw
        rw [hgg] at hg
        cases g with
        | none => simp at hg
        | some tw =>
          obtain ⟨t, want'⟩ := tw
          simp only [Bool.and_eq_true, beq_iff_eq] at hg
          obtain ⟨rfl, hk⟩ := hg
          have hw := wanted_iff (a := a) hgg hk
          by_cases hv : a.tmps[t]?.getD undef = .bool want
          · rw [if_pos (hw.2 hv)]
            exact .inl (hgoal.1 hv _ nx)
          · rw [if_neg (fun h => hv (hw.1 h))]
            exact nx undef w (hrf w) (hgoal.2 hv)
    | float =>
      have hgoal := hgoal a w hD
      have hs := bigSet rfl (by simp)
      have nx : ∀ v w', w' = w → V i w' v → wpAny P .any ops Q fuel (listed.setIfInBounds i true) (a.put o.dst v) w' := fun v w' hr hv => by
        subst hr
        exact next v w' (fun j _ _ u hu => hu) (fun h => hi.early (fun hb => h (hs.2 hb))) (fun h => hi.late (hs.1 h)) hv
      cases hgg : o.guard with
      | none =>
        rw [hgg] at hg
        cases g with
        | some _ => simp at hg
        | none =>
          rw [if_pos (by simp [Region.wanted, hgg])]
          exact .inl (hgoal _ nx)
      | some kw =>
        obtain ⟨k, want⟩ := kw
        rw [hgg] at hg
        cases g with
        | none => simp at hg
        | some tw =>
          obtain ⟨t, want'⟩ := tw
          simp only [Bool.and_eq_true, beq_iff_eq] at hg
          obtain ⟨rfl, hk⟩ := hg
          have hw := wanted_iff (a := a) hgg hk
          by_cases hv : a.tmps[t]?.getD undef = .bool want
          · rw [if_pos (hw.2 hv)]
            exact .inl (hgoal.1 hv _ nx)
          · rw [if_neg (fun h => hv (hw.1 h))]
            exact nx undef w rfl (hgoal.2 hv)
end

section
variable {P : Program} {Q : Exit → Act → World → Prop} {V : Nat → World → Value → Prop} {a0 : Act} {w0 : World} {E : Act → World → Prop}
theorem wp_region_big {id : Nat} {n : Nat} (ks : List Phase) (V : Nat → World → Value → Prop) (R Rp : World → World → Prop) (reads : List (Reads × GuardT)) (fin : List (Tmp × Nat)) {l : List Oper} (tail : List Oper) (hn : a0.tmps.size = n) (hk : regionOk l.toArray reads fin n = true) (hd : l.drop reads.length = tail) (hm : P.follows .mixedOrders = true)
    (hrf : ∀ w, R w w) (htr : ∀ a b c, R a b → R b c → R a c) (hK : phaseOk (mkAnc l) ks reads.length = true) (hb : ks.contains .big = true)
    (hst : ∀ i, ks[i]? ≠ some .big → ∀ w w' v, R w w' ∨ Rp w w' → V i w v → V i w' v)
    (hops : PhHold P Q R Rp V a0 w0.drew 0 l reads ks)
    (hend : EndHold (fun w w' => ∃ w1, R w w1 ∧ Rp w1 w') V w0.drew (wpList P l.toArray Q tail) (fun _ => True) fin a0) :
    (Code.region id l.toArray true).wp P Q a0 w0 := by
  subst hn
  subst hd
  simp only [regionOk, Bool.and_eq_true] at hk
  obtain ⟨⟨⟨⟨hA, hP⟩, hR⟩, hF⟩, hT⟩ := hk
  refine wp_region_any hm ?_
  refine wpAny_invB (Rp := Rp) (ks := ks) (w0 := w0.drew) hA hP hR hT hrf htr hK hst hops ?_ _ _ _ _ (Nat.le_trans List.count_le_length (by simp)) ⟨fun _ => hrf _, ?_, rfl, rfl, by simp, ?_, ?_, ?_⟩
  · intro listed a w hl hi
    simp only [finalOk, Bool.and_eq_true, List.all_eq_true, beq_iff_eq] at hF
    have hF2 : ∀ (j : Nat) (o : Oper) (t : Tmp), l.toArray[j]? = some o → j < reads.length → o.dst = some t → t ∈ fin.map (·.1) := by
      intro j o t ho hj hd
      have := hF.2 o (by
        have h1 : (l.take reads.length)[j]? = some o := by rw [List.getElem?_take_of_lt hj]; simpa using ho
        exact List.mem_of_getElem? h1)
      rw [hd] at this
      simpa using this
    have hlast : ∀ t, lastW l.toArray (fun j => listed.getD j false) t = lastW l.toArray (fun j => decide (j < reads.length)) t := fun t =>
      lastW_congr fun j o ho _ => hl j
    have e : fin.foldl (fun a' x => a'.put (some x.1) ((fun t => a.tmps[t]?.getD undef) x.1)) a0 = a := by
      have h := foldl_put (fun t => a.tmps[t]?.getD undef) fin a0
      have hd : (fin.foldl (fun a' x => a'.put (some x.1) ((fun t => a.tmps[t]?.getD undef) x.1)) a0).defers = a.defers := h.2.1.trans hi.defers.symm
      have ht : (fin.foldl (fun a' x => a'.put (some x.1) ((fun t => a.tmps[t]?.getD undef) x.1)) a0).tmps = a.tmps := by
        refine Array.ext_getElem? fun t => ?_
        rcases Nat.lt_or_ge t a0.tmps.size with hlt | hge
        · rw [h.2.2 t hlt]
          have hat : a.tmps[t]? = some (a.tmps[t]?.getD undef) := by
            have : t < a.tmps.size := by rw [hi.size]; exact hlt
            simp [this]
          by_cases hm : t ∈ fin.map (·.1)
          · rw [if_pos hm]; exact hat.symm
          · rw [if_neg hm]
            have h2 := hi.tmps t
            have hnone : lastW l.toArray (fun j => listed.getD j false) t = none := by
              unfold lastW
              rw [List.find?_eq_none]
              intro j _
              cases ho : l.toArray[j]? with
              | none => simp
              | some o =>
                by_cases hdo : o.dst = some t
                · rcases Nat.lt_or_ge j reads.length with hj | hj
                  · exact absurd (hF2 j o t ho hj hdo) hm
                  · simp only [hi.tail j hj]; simp
                · simp [hdo]
            rw [hnone] at h2
            rw [hat, h2]
            simp [hlt]
        · rw [Array.getElem?_eq_none (by rw [h.1]; exact hge), Array.getElem?_eq_none (by rw [hi.size]; exact hge)]
      generalize fin.foldl (fun a' x => a'.put (some x.1) ((fun t => a.tmps[t]?.getD undef) x.1)) a0 = z at hd ht
      cases z; cases a; simp_all
    have hbin : BigIn ks listed := by
      have hmem := List.contains_iff_mem.1 hb
      obtain ⟨p, hp⟩ := List.mem_iff_getElem?.1 hmem
      refine ⟨p, hp, ?_⟩
      rw [hl p]
      have h1 := (List.getElem?_eq_some_iff.1 hp).1
      have h2 := hK
      simp only [phaseOk, Bool.and_eq_true, beq_iff_eq] at h2
      simp; omega
    have := endHold_at (fun t => a.tmps[t]?.getD undef) w (hi.late hbin) fin _ a0 hend trivial (fun x hx => by
      have h1 := hF.1 x hx
      have h2 := hi.tmps x.1
      rw [hlast, h1] at h2
      exact h2)
    rw [e] at this
    exact this
  · rintro ⟨p, _, hp⟩
    exfalso
    rcases Nat.lt_or_ge p l.length with h | h
    · simp [h] at hp
    · simp [h] at hp
  · intro j o ho hl
    exfalso
    have hj : j < l.length := by simpa using (Array.getElem?_eq_some_iff.1 ho).1
    simp [hj] at hl
  · intro j _
    rcases Nat.lt_or_ge j l.length with h | h
    · simp [h]
    · simp [h]
  · intro t
    have : lastW l.toArray (fun j => (Array.replicate l.toArray.size false).getD j false) t = none := by
      unfold lastW
      rw [List.find?_eq_none]
      intro j hj
      have hj : j < l.length := by simpa using hj
      simp [hj]
    rw [this]


end

/-- the predicates of all but the big one are kept by both -/
def StableB (R Rp : World → World → Prop) : List Phase → List (World → Value → Prop) → Prop
  | k :: ks, V :: Vs => (k ≠ .big → ∀ w w' v, R w w' ∨ Rp w w' → V w v → V w' v) ∧ StableB R Rp ks Vs
  | _, _ => True
theorem stableB_at {R Rp : World → World → Prop} : ∀ (ks : List Phase) (Vs : List (World → Value → Prop)), ks.length = Vs.length → StableB R Rp ks Vs → ∀ i, ks[i]? ≠ some .big → ∀ w w' v, R w w' ∨ Rp w w' → at_ Vs i w v → at_ Vs i w' v
  | [], [], _, _, _, _, _, _, _, _, _ => trivial
  | k :: ks, V :: Vs, hl, h, 0, hn, w, w', v, hr, hv => h.1 (fun e => hn (by simp [e])) w w' v hr hv
  | k :: ks, V :: Vs, hl, h, i + 1, hn, w, w', v, hr, hv => stableB_at ks Vs (by simpa using hl) h.2 i (by simpa using hn) w w' v hr hv
theorem Is.stableB {R Rp : World → World → Prop} (x : Value) : ∀ w w' v, R w w' ∨ Rp w w' → Is x w v → Is x w' v := fun _ _ _ _ h => h
theorem region_big {P : Program} {Q : Exit → Act → World → Prop} {a0 : Act} {w0 : World} {id : Nat} {n : Nat} {l : List Oper} (Rp : World → World → Prop) (ks : List Phase) (Vs : List (World → Value → Prop)) (reads : List (Reads × GuardT)) (fin : List (Tmp × Nat))
    (hn : a0.tmps.size = n) (hk : regionOk l.toArray reads fin n = true) (hK : phaseOk (mkAnc l) ks reads.length = true) (hb : ks.contains .big = true) (hm : P.follows .mixedOrders = true) (hv : ks.length = Vs.length)
    (hst : StableB Grew Rp ks Vs)
    (hops : PhHold P Q Grew Rp (at_ Vs) a0 w0.drew 0 l reads ks)
    (hend : EndHold (fun w w' => ∃ w1, Grew w w1 ∧ Rp w1 w') (at_ Vs) w0.drew (Later (wpList P l.toArray Q (dropN reads l))) (fun _ => True) fin a0) :
    (Code.region id l.toArray true).wp P Q a0 w0 :=
  wp_region_big ks (at_ Vs) Grew Rp reads fin _ hn hk (dropN_eq reads l) hm Grew.refl (fun _ _ _ => Grew.trans) hK hb (stableB_at ks Vs hv hst) hops (endHold_later _ _ _ hend)
end Go.Proofs.YteaefambkagpbaaR

-- NumC
namespace Go.Proofs.Yteaefambkagpbaa.F
open Go Go.RowKit Go.Proofs.YteaefambkagpbaaW.PrintWords Go.Proofs.YteaefambkagpbaaW.PrintLast Go.Proofs.YteaefambkagpbaaW.PrintMore Go.Proofs.YteaefambkagpbaaM Go.Proofs.YteaefambkagpbaaR
set_option linter.unusedSimpArgs false
set_option linter.unusedVariables false
theorem w64 {x : Int} (h : -9223372036854775808 ≤ x) (k : x ≤ 9223372036854775807) : wrap64 x = x := by unfold wrap64; omega
theorem str_size (l : List Int) : (strOfNums l).size = l.length := by
  unfold strOfNums; simp [ByteArray.size]
end Go.Proofs.Yteaefambkagpbaa.F

-- NumG
namespace Go.Proofs.Yteaefambkagpbaa.F
open Go Go.RowKit Go.Proofs.YteaefambkagpbaaW.PrintWords Go.Proofs.YteaefambkagpbaaW.PrintLast Go.Proofs.YteaefambkagpbaaW.PrintMore Go.Proofs.YteaefambkagpbaaM Go.Proofs.YteaefambkagpbaaR
set_option linter.unusedSimpArgs false
set_option linter.unusedVariables false
theorem pow_pos (i : Nat) : 0 < (128 : Int) ^ i := Int.pow_pos (by decide)
end Go.Proofs.Yteaefambkagpbaa.F

-- F32
namespace Go.Proofs.Yteaefambkagpbaa.F
open Go.RowKit Go.Proofs.YteaefambkagpbaaW.PrintWords Go.Proofs.YteaefambkagpbaaW.PrintLast Go.Proofs.YteaefambkagpbaaW.PrintMore
attribute [local go_sem] max2_int min2_int max_two min_two max_three min_three max_four min_four   -- for this text's walks alone
set_option linter.unusedVariables false
set_option linter.unusedSimpArgs false

end Go.Proofs.Yteaefambkagpbaa.F

-- NumK
namespace Go.Proofs.Yteaefambkagpbaa.F
open Go Go.RowKit Go.Proofs.YteaefambkagpbaaW.PrintWords Go.Proofs.YteaefambkagpbaaW.PrintLast Go.Proofs.YteaefambkagpbaaW.PrintMore Go.Proofs.YteaefambkagpbaaM Go.Proofs.YteaefambkagpbaaR
attribute [local go_sem] max2_int min2_int max_two min_two
set_option linter.unusedSimpArgs false
set_option linter.unusedVariables false
set_option maxRecDepth 100000
end Go.Proofs.Yteaefambkagpbaa.F

-- Own
namespace Go.Proofs.Yteaefambkagpbaa.F
open Go Go.RowKit Go.Proofs.YteaefambkagpbaaW.PrintWords Go.Proofs.YteaefambkagpbaaW.PrintLast Go.Proofs.YteaefambkagpbaaW.PrintMore Go.Proofs.YteaefambkagpbaaR
theorem C_of {A : Option Addr} {n : Nat} {l : List Int} {w : World} {k : IntKind} (h : ReadsInt w k A n l) : Kd.C (Kd.int k) w A n l :=
  Kd.C_of_reads (d := (0 : Int)) (h1 := fun _ => rfl) h
end Go.Proofs.Yteaefambkagpbaa.F

-- F11
namespace Go.Proofs.Yteaefambkagpbaa.F
open Go.RowKit Go.Proofs.YteaefambkagpbaaW.PrintWords Go.Proofs.YteaefambkagpbaaW.PrintLast Go.Proofs.YteaefambkagpbaaW.PrintMore
attribute [local go_sem] max2_int min2_int max_two min_two max_three min_three max_four min_four   -- for this text's walks alone
set_option linter.unusedVariables false
set_option linter.unusedSimpArgs false

/-! ### link_Right: function 11 -/
def link_Right.j0 : Nat → Bool → Bool → Int → Bool → ByteArray → Int → Option (Bool)
  | 0, _, _, _, _, _, _ => none
  | k + 1, x10, x117000, x117001, x117002, x117003, x117004 => if x10 = true then (some false) else (if x117000 = true then (if x117004 ≥ 0 then (if x117004 < 65536 then (if (Go.bits .and .i64 x117004 1) = 0 then (if x117002 = true then (some false) else (some (x117003.toList == ([] : List UInt8)))) else (some false)) else (some false)) else (some false)) else (if (x117003.size : Int) ≤ 200 then (if x117002 = true then (some (x117004 == 0)) else (if (x117003.size : Int) = 200 then (some (x117004 == 0)) else (some false))) else (some false)))
def link_Right.f (k : Nat) (a0_0 : Bool) (a0_1 : Int) (a0_2 : Bool) (a0_3 : ByteArray) (a0_4 : Int) : Option (Bool) := if a0_1 < 0 then (link_Right.j0 k true a0_0 a0_1 a0_2 a0_3 a0_4) else (link_Right.j0 k (decide (a0_1 > 1099511627776)) a0_0 a0_1 a0_2 a0_3 a0_4)
set_option maxHeartbeats 8000000 in
set_option maxRecDepth 100000 in
theorem link_Right.calls (k : Nat) (a0_0 : Bool) (a0_1 : Int) (a0_2 : Bool) (a0_3 : ByteArray) (a0_4 : Int) (r : Bool) (w : World) (h : link_Right.f k a0_0 a0_1 a0_2 a0_3 a0_4 = some r) :
    Calls Try.prog 11 #[.agg #[.bool a0_0, .int .i64 a0_1, .bool a0_2, .string a0_3, .int .i64 a0_4]] w fun e w' => e = .returned (.bool r) ∧ Below w.heap.size w w' := by
  have hu30 := Try.underlying30
  have HB := Aside0.mk (Below.refl w.heap.size w)
  have H : (if a0_1 < 0 then (link_Right.j0 k true a0_0 a0_1 a0_2 a0_3 a0_4) else (link_Right.j0 k (decide (a0_1 > 1099511627776)) a0_0 a0_1 a0_2 a0_3 a0_4)) = some r := h
  clear h
  have HC2 := Aside0.mk H
  clear H
  go_enter Try.func11, Try.ntmps11
  go_upto_region 1 with (first | ((with_reducible refine gate_dst (N := 1) rfl ?_); (try (refine gate_guard (by rfl) ?_; dsimp only)); refine box_event ?hg (N := 1) ?hd (cs := #[.bool a0_0, .int .i64 a0_1, .bool a0_2, .string a0_3, .int .i64 a0_4]) (t := 30) ?hr ?_; (case hd => rfl); (case hg => rfl); (case hr => first | (go_simp; done) | (go_simp; rfl)); intro gb116 hg w3 hbox hb; have n0_ := Aside0.mk (below_step (by repeat (first | (with_reducible first | exact HB.out | apply below_alloc | apply pw_below_drewN | apply below_drew1) | exact HB.out)) hb); have n1_ := Aside0.mk (hbox); have n2_ := Aside0.mk ((by rw [hg]; exact (below_size (by repeat (first | (with_reducible first | exact HB.out | apply below_alloc | apply pw_below_drewN | apply below_drew1) | exact HB.out))) : w.heap.size ≤ gb116)); have n3_ := Aside0.mk ((by rw [hg]; exact (below_size (by repeat (first | (with_reducible first | exact HB.out | apply below_alloc | apply pw_below_drewN | apply below_drew1) | exact HB.out))) : w.heap.size ≤ gb116)); clear HB; have HB := n0_; have BK116 := n1_; have GW116 := n2_; have GE116 := n3_; clear n0_ n1_ n2_ n3_; clear hb hbox hg))
  (try simp only [Act.put, List.setIfInBounds_toArray, List.set_cons_zero, List.set_cons_succ])
  go_cut [10] (fun v10 wc => ∃ (kq : Nat) (x10_1 : Bool), v10 = .bool x10_1 ∧ Aside0 (link_Right.j0 kq x10_1 a0_0 a0_1 a0_2 a0_3 a0_4 = some r) ∧ Aside0 (kq ≤ k) ∧ Aside0 (wc.heap[gb116]? = some (.cells #[.bool a0_0, .int .i64 a0_1, .bool a0_2, .string a0_3, .int .i64 a0_4] 30 (0, 0))) ∧ Aside0 (Below w.heap.size w wc))
  case first =>
    have H := HC2.out
    clear HC2
    by_cases c4 : a0_1 < 0
    · rw [if_pos c4] at H
      have c4b0 : decide (a0_1 < 0) = true := decide_eq_true c4
      clear c4
      (first | rw [c4b0] | (simp only [i64_w, i32_w]; rw [c4b0]) | skip)
      have H' := Aside0.mk H
      clear H
      have hcz5_0 : w3.cell? ⟨gb116, 0, none⟩ = some (.bool a0_0) := (blk_cell BK116.out 0).trans rfl
      have hcz5_1 : w3.cell? ⟨gb116, 1, none⟩ = some (.int .i64 a0_1) := (blk_cell BK116.out 1).trans rfl
      have hcz5_2 : w3.cell? ⟨gb116, 2, none⟩ = some (.bool a0_2) := (blk_cell BK116.out 2).trans rfl
      have hcz5_3 : w3.cell? ⟨gb116, 3, none⟩ = some (.string a0_3) := (blk_cell BK116.out 3).trans rfl
      have hcz5_4 : w3.cell? ⟨gb116, 4, none⟩ = some (.int .i64 a0_4) := (blk_cell BK116.out 4).trans rfl
      have hfz5_0 := blk_frozen BK116.out 0
      have hfz5_1 := blk_frozen BK116.out 1
      have hfz5_2 := blk_frozen BK116.out 2
      have hfz5_3 := blk_frozen BK116.out 3
      have hfz5_4 := blk_frozen BK116.out 4
      go_wp2
      go_meet
      case rel => exact ⟨_, (true), (by first | rfl | (simp; done) | (simp [*]; done)), H', ⟨by first | omega | exact Nat.le_refl _⟩, ⟨by (with_reducible repeat (first | refine blk_drewN ?_ _ | refine blk_drew ?_ | refine blk_alloc ?_ _)); exact BK116.out⟩, ⟨by repeat (first | (with_reducible first | exact HB.out | apply below_alloc | apply pw_below_drewN | apply below_drew1 | refine below_set ?_ GE116.out) | exact HB.out)⟩⟩
    · rw [if_neg c4] at H
      have c4b0 : decide (a0_1 < 0) = false := decide_eq_false c4
      clear c4
      (first | rw [c4b0] | (simp only [i64_w, i32_w]; rw [c4b0]) | skip)
      have H' := Aside0.mk H
      clear H
      have hcz6_0 : w3.cell? ⟨gb116, 0, none⟩ = some (.bool a0_0) := (blk_cell BK116.out 0).trans rfl
      have hcz6_1 : w3.cell? ⟨gb116, 1, none⟩ = some (.int .i64 a0_1) := (blk_cell BK116.out 1).trans rfl
      have hcz6_2 : w3.cell? ⟨gb116, 2, none⟩ = some (.bool a0_2) := (blk_cell BK116.out 2).trans rfl
      have hcz6_3 : w3.cell? ⟨gb116, 3, none⟩ = some (.string a0_3) := (blk_cell BK116.out 3).trans rfl
      have hcz6_4 : w3.cell? ⟨gb116, 4, none⟩ = some (.int .i64 a0_4) := (blk_cell BK116.out 4).trans rfl
      have hfz6_0 := blk_frozen BK116.out 0
      have hfz6_1 := blk_frozen BK116.out 1
      have hfz6_2 := blk_frozen BK116.out 2
      have hfz6_3 := blk_frozen BK116.out 3
      have hfz6_4 := blk_frozen BK116.out 4
      go_wp2
      go_meet
      case rel => exact ⟨_, (decide (a0_1 > 1099511627776)), (by first | rfl | (simp; done) | (simp [*]; done)), H', ⟨by first | omega | exact Nat.le_refl _⟩, ⟨by (with_reducible repeat (first | refine blk_drewN ?_ _ | refine blk_drew ?_ | refine blk_alloc ?_ _)); exact BK116.out⟩, ⟨by repeat (first | (with_reducible first | exact HB.out | apply below_alloc | apply pw_below_drewN | apply below_drew1 | refine below_set ?_ GE116.out) | exact HB.out)⟩⟩
  case rest =>
    clear HC2
    try clear c1
    try clear p2
    try clear c4
    try clear c4b0
    try clear hcz5_0
    try clear hcz5_1
    try clear hcz5_2
    try clear hcz5_3
    try clear hcz5_4
    try clear hcz6_0
    try clear hcz6_1
    try clear hcz6_2
    try clear hcz6_3
    try clear hcz6_4
    try clear hfz5_0
    try clear hfz5_1
    try clear hfz5_2
    try clear hfz5_3
    try clear hfz5_4
    try clear hfz6_0
    try clear hfz6_1
    try clear hfz6_2
    try clear hfz6_3
    try clear hfz6_4
    obtain ⟨kq, x10_1, rfl, HA, HJ1, BK116, HB⟩ := hcut
    cases kq with
    | zero => exact absurd HA.out (by simp [link_Right.j0])
    | succ kj1 =>
      have H := HA.out
      clear HA
      simp only [link_Right.j0] at H
      by_cases c7 : x10_1 = true
      · subst c7
        have H1 : (some false) = some r := by rw [if_pos rfl] at H; exact H
        clear H
        have H := H1
        clear H1
        obtain rfl := Option.some.inj H
        go_wp2
        go_ret
        exact ⟨by first | rfl | (simp [errW_none, errW_some] <;> rfl) | (simp [*, errW_none, errW_some] <;> rfl), by repeat (first | (with_reducible first | exact HB.out | apply below_alloc | apply pw_below_drewN | apply below_drew1 | refine below_set ?_ GE116.out) | exact HB.out)⟩
      · replace c7 := Bool.eq_false_iff.mpr c7
        subst c7
        have H1 : (if a0_0 = true then (if a0_4 ≥ 0 then (if a0_4 < 65536 then (if (Go.bits .and .i64 a0_4 1) = 0 then (if a0_2 = true then (some false) else (some (a0_3.toList == ([] : List UInt8)))) else (some false)) else (some false)) else (some false)) else (if (a0_3.size : Int) ≤ 200 then (if a0_2 = true then (some (a0_4 == 0)) else (if (a0_3.size : Int) = 200 then (some (a0_4 == 0)) else (some false))) else (some false))) = some r := by rw [if_neg (show ¬ (false = true) by decide)] at H; exact H
        clear H
        have H := H1
        clear H1
        by_cases c8 : a0_0 = true
        · subst c8
          have H1 : (if a0_4 ≥ 0 then (if a0_4 < 65536 then (if (Go.bits .and .i64 a0_4 1) = 0 then (if a0_2 = true then (some false) else (some (a0_3.toList == ([] : List UInt8)))) else (some false)) else (some false)) else (some false)) = some r := by rw [if_pos rfl] at H; exact H
          clear H
          have H := H1
          clear H1
          by_cases c9 : a0_4 ≥ 0
          · rw [if_pos c9] at H
            have c9b0 : decide (0 ≤ a0_4) = true := decide_eq_true c9
            clear c9
            by_cases c10 : a0_4 < 65536
            · rw [if_pos c10] at H
              have c10b0 : decide (a0_4 < 65536) = true := decide_eq_true c10
              clear c10
              by_cases c11 : (Go.bits .and .i64 a0_4 1) = 0
              · rw [if_pos c11] at H
                have c11b0 : ((Go.bits .and .i64 a0_4 1) == 0) = true := beq_iff_eq.mpr c11
                have c11b1 : ((Go.bits .and .i64 a0_4 1) != 0) = false := bne_eq_false_iff_eq.mpr c11
                clear c11
                by_cases c12 : a0_2 = true
                · subst c12
                  have H1 : (some false) = some r := by rw [if_pos rfl] at H; exact H
                  clear H
                  have H := H1
                  clear H1
                  obtain rfl := Option.some.inj H
                  have hcz13_0 : wc.cell? ⟨gb116, 0, none⟩ = some (.bool true) := (blk_cell BK116.out 0).trans rfl
                  have hcz13_1 : wc.cell? ⟨gb116, 1, none⟩ = some (.int .i64 a0_1) := (blk_cell BK116.out 1).trans rfl
                  have hcz13_2 : wc.cell? ⟨gb116, 2, none⟩ = some (.bool true) := (blk_cell BK116.out 2).trans rfl
                  have hcz13_3 : wc.cell? ⟨gb116, 3, none⟩ = some (.string a0_3) := (blk_cell BK116.out 3).trans rfl
                  have hcz13_4 : wc.cell? ⟨gb116, 4, none⟩ = some (.int .i64 a0_4) := (blk_cell BK116.out 4).trans rfl
                  have hfz13_0 := blk_frozen BK116.out 0
                  have hfz13_1 := blk_frozen BK116.out 1
                  have hfz13_2 := blk_frozen BK116.out 2
                  have hfz13_3 := blk_frozen BK116.out 3
                  have hfz13_4 := blk_frozen BK116.out 4
                  go_wp2
                  go_ret
                  exact ⟨by first | rfl | (simp [errW_none, errW_some] <;> rfl) | (simp [*, errW_none, errW_some] <;> rfl), by repeat (first | (with_reducible first | exact HB.out | apply below_alloc | apply pw_below_drewN | apply below_drew1 | refine below_set ?_ GE116.out) | exact HB.out)⟩
                · replace c12 := Bool.eq_false_iff.mpr c12
                  subst c12
                  have H1 : (some (a0_3.toList == ([] : List UInt8))) = some r := by rw [if_neg (show ¬ (false = true) by decide)] at H; exact H
                  clear H
                  have H := H1
                  clear H1
                  obtain rfl := Option.some.inj H
                  have hcz14_0 : wc.cell? ⟨gb116, 0, none⟩ = some (.bool true) := (blk_cell BK116.out 0).trans rfl
                  have hcz14_1 : wc.cell? ⟨gb116, 1, none⟩ = some (.int .i64 a0_1) := (blk_cell BK116.out 1).trans rfl
                  have hcz14_2 : wc.cell? ⟨gb116, 2, none⟩ = some (.bool false) := (blk_cell BK116.out 2).trans rfl
                  have hcz14_3 : wc.cell? ⟨gb116, 3, none⟩ = some (.string a0_3) := (blk_cell BK116.out 3).trans rfl
                  have hcz14_4 : wc.cell? ⟨gb116, 4, none⟩ = some (.int .i64 a0_4) := (blk_cell BK116.out 4).trans rfl
                  have hfz14_0 := blk_frozen BK116.out 0
                  have hfz14_1 := blk_frozen BK116.out 1
                  have hfz14_2 := blk_frozen BK116.out 2
                  have hfz14_3 := blk_frozen BK116.out 3
                  have hfz14_4 := blk_frozen BK116.out 4
                  go_wp2
                  go_ret
                  exact ⟨by first | rfl | (simp [errW_none, errW_some] <;> rfl) | (simp [*, errW_none, errW_some] <;> rfl), by repeat (first | (with_reducible first | exact HB.out | apply below_alloc | apply pw_below_drewN | apply below_drew1 | refine below_set ?_ GE116.out) | exact HB.out)⟩
              · rw [if_neg c11] at H
                have c11b0 : ((Go.bits .and .i64 a0_4 1) == 0) = false := beq_eq_false_iff_ne.mpr c11
                have c11b1 : ((Go.bits .and .i64 a0_4 1) != 0) = true := bne_iff_ne.mpr c11
                obtain rfl := Option.some.inj H
                have hcz15_0 : wc.cell? ⟨gb116, 0, none⟩ = some (.bool true) := (blk_cell BK116.out 0).trans rfl
                have hcz15_1 : wc.cell? ⟨gb116, 1, none⟩ = some (.int .i64 a0_1) := (blk_cell BK116.out 1).trans rfl
                have hcz15_2 : wc.cell? ⟨gb116, 2, none⟩ = some (.bool a0_2) := (blk_cell BK116.out 2).trans rfl
                have hcz15_3 : wc.cell? ⟨gb116, 3, none⟩ = some (.string a0_3) := (blk_cell BK116.out 3).trans rfl
                have hcz15_4 : wc.cell? ⟨gb116, 4, none⟩ = some (.int .i64 a0_4) := (blk_cell BK116.out 4).trans rfl
                have hfz15_0 := blk_frozen BK116.out 0
                have hfz15_1 := blk_frozen BK116.out 1
                have hfz15_2 := blk_frozen BK116.out 2
                have hfz15_3 := blk_frozen BK116.out 3
                have hfz15_4 := blk_frozen BK116.out 4
                go_wp2
                go_ret
                exact ⟨by first | rfl | (simp [errW_none, errW_some] <;> rfl) | (simp [*, errW_none, errW_some] <;> rfl), by repeat (first | (with_reducible first | exact HB.out | apply below_alloc | apply pw_below_drewN | apply below_drew1 | refine below_set ?_ GE116.out) | exact HB.out)⟩
            · rw [if_neg c10] at H
              have c10b0 : decide (a0_4 < 65536) = false := decide_eq_false c10
              clear c10
              obtain rfl := Option.some.inj H
              have hcz16_0 : wc.cell? ⟨gb116, 0, none⟩ = some (.bool true) := (blk_cell BK116.out 0).trans rfl
              have hcz16_1 : wc.cell? ⟨gb116, 1, none⟩ = some (.int .i64 a0_1) := (blk_cell BK116.out 1).trans rfl
              have hcz16_2 : wc.cell? ⟨gb116, 2, none⟩ = some (.bool a0_2) := (blk_cell BK116.out 2).trans rfl
              have hcz16_3 : wc.cell? ⟨gb116, 3, none⟩ = some (.string a0_3) := (blk_cell BK116.out 3).trans rfl
              have hcz16_4 : wc.cell? ⟨gb116, 4, none⟩ = some (.int .i64 a0_4) := (blk_cell BK116.out 4).trans rfl
              have hfz16_0 := blk_frozen BK116.out 0
              have hfz16_1 := blk_frozen BK116.out 1
              have hfz16_2 := blk_frozen BK116.out 2
              have hfz16_3 := blk_frozen BK116.out 3
              have hfz16_4 := blk_frozen BK116.out 4
              go_wp2
              go_ret
              exact ⟨by first | rfl | (simp [errW_none, errW_some] <;> rfl) | (simp [*, errW_none, errW_some] <;> rfl), by repeat (first | (with_reducible first | exact HB.out | apply below_alloc | apply pw_below_drewN | apply below_drew1 | refine below_set ?_ GE116.out) | exact HB.out)⟩
          · rw [if_neg c9] at H
            have c9b0 : decide (0 ≤ a0_4) = false := decide_eq_false c9
            clear c9
            obtain rfl := Option.some.inj H
            have hcz17_0 : wc.cell? ⟨gb116, 0, none⟩ = some (.bool true) := (blk_cell BK116.out 0).trans rfl
            have hcz17_1 : wc.cell? ⟨gb116, 1, none⟩ = some (.int .i64 a0_1) := (blk_cell BK116.out 1).trans rfl
            have hcz17_2 : wc.cell? ⟨gb116, 2, none⟩ = some (.bool a0_2) := (blk_cell BK116.out 2).trans rfl
            have hcz17_3 : wc.cell? ⟨gb116, 3, none⟩ = some (.string a0_3) := (blk_cell BK116.out 3).trans rfl
            have hcz17_4 : wc.cell? ⟨gb116, 4, none⟩ = some (.int .i64 a0_4) := (blk_cell BK116.out 4).trans rfl
            have hfz17_0 := blk_frozen BK116.out 0
            have hfz17_1 := blk_frozen BK116.out 1
            have hfz17_2 := blk_frozen BK116.out 2
            have hfz17_3 := blk_frozen BK116.out 3
            have hfz17_4 := blk_frozen BK116.out 4
            go_wp2
            go_ret
            exact ⟨by first | rfl | (simp [errW_none, errW_some] <;> rfl) | (simp [*, errW_none, errW_some] <;> rfl), by repeat (first | (with_reducible first | exact HB.out | apply below_alloc | apply pw_below_drewN | apply below_drew1 | refine below_set ?_ GE116.out) | exact HB.out)⟩
        · replace c8 := Bool.eq_false_iff.mpr c8
          subst c8
          have H1 : (if (a0_3.size : Int) ≤ 200 then (if a0_2 = true then (some (a0_4 == 0)) else (if (a0_3.size : Int) = 200 then (some (a0_4 == 0)) else (some false))) else (some false)) = some r := by rw [if_neg (show ¬ (false = true) by decide)] at H; exact H
          clear H
          have H := H1
          clear H1
          by_cases c18 : (a0_3.size : Int) ≤ 200
          · rw [if_pos c18] at H
            have c18b0 : decide ((a0_3.size : Int) ≤ 200) = true := decide_eq_true c18
            have c18b1 : decide (a0_3.size ≤ 200) = true := decide_eq_true (by omega)
            clear c18
            by_cases c19 : a0_2 = true
            · subst c19
              have H1 : (some (a0_4 == 0)) = some r := by rw [if_pos rfl] at H; exact H
              clear H
              have H := H1
              clear H1
              obtain rfl := Option.some.inj H
              have hcz20_0 : wc.cell? ⟨gb116, 0, none⟩ = some (.bool false) := (blk_cell BK116.out 0).trans rfl
              have hcz20_1 : wc.cell? ⟨gb116, 1, none⟩ = some (.int .i64 a0_1) := (blk_cell BK116.out 1).trans rfl
              have hcz20_2 : wc.cell? ⟨gb116, 2, none⟩ = some (.bool true) := (blk_cell BK116.out 2).trans rfl
              have hcz20_3 : wc.cell? ⟨gb116, 3, none⟩ = some (.string a0_3) := (blk_cell BK116.out 3).trans rfl
              have hcz20_4 : wc.cell? ⟨gb116, 4, none⟩ = some (.int .i64 a0_4) := (blk_cell BK116.out 4).trans rfl
              have hfz20_0 := blk_frozen BK116.out 0
              have hfz20_1 := blk_frozen BK116.out 1
              have hfz20_2 := blk_frozen BK116.out 2
              have hfz20_3 := blk_frozen BK116.out 3
              have hfz20_4 := blk_frozen BK116.out 4
              go_wp2
              go_ret
              exact ⟨by first | rfl | (simp [errW_none, errW_some] <;> rfl) | (simp [*, errW_none, errW_some] <;> rfl), by repeat (first | (with_reducible first | exact HB.out | apply below_alloc | apply pw_below_drewN | apply below_drew1 | refine below_set ?_ GE116.out) | exact HB.out)⟩
            · replace c19 := Bool.eq_false_iff.mpr c19
              subst c19
              have H1 : (if (a0_3.size : Int) = 200 then (some (a0_4 == 0)) else (some false)) = some r := by rw [if_neg (show ¬ (false = true) by decide)] at H; exact H
              clear H
              have H := H1
              clear H1
              by_cases c21 : (a0_3.size : Int) = 200
              · rw [if_pos c21] at H
                have c21b0 : ((a0_3.size : Int) == 200) = true := beq_iff_eq.mpr c21
                have c21b1 : ((a0_3.size : Int) != 200) = false := bne_eq_false_iff_eq.mpr c21
                clear c21
                obtain rfl := Option.some.inj H
                have hcz22_0 : wc.cell? ⟨gb116, 0, none⟩ = some (.bool false) := (blk_cell BK116.out 0).trans rfl
                have hcz22_1 : wc.cell? ⟨gb116, 1, none⟩ = some (.int .i64 a0_1) := (blk_cell BK116.out 1).trans rfl
                have hcz22_2 : wc.cell? ⟨gb116, 2, none⟩ = some (.bool false) := (blk_cell BK116.out 2).trans rfl
                have hcz22_3 : wc.cell? ⟨gb116, 3, none⟩ = some (.string a0_3) := (blk_cell BK116.out 3).trans rfl
                have hcz22_4 : wc.cell? ⟨gb116, 4, none⟩ = some (.int .i64 a0_4) := (blk_cell BK116.out 4).trans rfl
                have hfz22_0 := blk_frozen BK116.out 0
                have hfz22_1 := blk_frozen BK116.out 1
                have hfz22_2 := blk_frozen BK116.out 2
                have hfz22_3 := blk_frozen BK116.out 3
                have hfz22_4 := blk_frozen BK116.out 4
                go_wp2
                go_ret
                exact ⟨by first | rfl | (simp [errW_none, errW_some] <;> rfl) | (simp [*, errW_none, errW_some] <;> rfl), by repeat (first | (with_reducible first | exact HB.out | apply below_alloc | apply pw_below_drewN | apply below_drew1 | refine below_set ?_ GE116.out) | exact HB.out)⟩
              · rw [if_neg c21] at H
                have c21b0 : ((a0_3.size : Int) == 200) = false := beq_eq_false_iff_ne.mpr c21
                have c21b1 : ((a0_3.size : Int) != 200) = true := bne_iff_ne.mpr c21
                obtain rfl := Option.some.inj H
                have hcz23_0 : wc.cell? ⟨gb116, 0, none⟩ = some (.bool false) := (blk_cell BK116.out 0).trans rfl
                have hcz23_1 : wc.cell? ⟨gb116, 1, none⟩ = some (.int .i64 a0_1) := (blk_cell BK116.out 1).trans rfl
                have hcz23_2 : wc.cell? ⟨gb116, 2, none⟩ = some (.bool false) := (blk_cell BK116.out 2).trans rfl
                have hcz23_3 : wc.cell? ⟨gb116, 3, none⟩ = some (.string a0_3) := (blk_cell BK116.out 3).trans rfl
                have hcz23_4 : wc.cell? ⟨gb116, 4, none⟩ = some (.int .i64 a0_4) := (blk_cell BK116.out 4).trans rfl
                have hfz23_0 := blk_frozen BK116.out 0
                have hfz23_1 := blk_frozen BK116.out 1
                have hfz23_2 := blk_frozen BK116.out 2
                have hfz23_3 := blk_frozen BK116.out 3
                have hfz23_4 := blk_frozen BK116.out 4
                go_wp2
                go_ret
                exact ⟨by first | rfl | (simp [errW_none, errW_some] <;> rfl) | (simp [*, errW_none, errW_some] <;> rfl), by repeat (first | (with_reducible first | exact HB.out | apply below_alloc | apply pw_below_drewN | apply below_drew1 | refine below_set ?_ GE116.out) | exact HB.out)⟩
          · rw [if_neg c18] at H
            have c18b0 : decide ((a0_3.size : Int) ≤ 200) = false := decide_eq_false c18
            have c18b1 : decide (a0_3.size ≤ 200) = false := decide_eq_false (by omega)
            clear c18
            obtain rfl := Option.some.inj H
            have hcz24_0 : wc.cell? ⟨gb116, 0, none⟩ = some (.bool false) := (blk_cell BK116.out 0).trans rfl
            have hcz24_1 : wc.cell? ⟨gb116, 1, none⟩ = some (.int .i64 a0_1) := (blk_cell BK116.out 1).trans rfl
            have hcz24_2 : wc.cell? ⟨gb116, 2, none⟩ = some (.bool a0_2) := (blk_cell BK116.out 2).trans rfl
            have hcz24_3 : wc.cell? ⟨gb116, 3, none⟩ = some (.string a0_3) := (blk_cell BK116.out 3).trans rfl
            have hcz24_4 : wc.cell? ⟨gb116, 4, none⟩ = some (.int .i64 a0_4) := (blk_cell BK116.out 4).trans rfl
            have hfz24_0 := blk_frozen BK116.out 0
            have hfz24_1 := blk_frozen BK116.out 1
            have hfz24_2 := blk_frozen BK116.out 2
            have hfz24_3 := blk_frozen BK116.out 3
            have hfz24_4 := blk_frozen BK116.out 4
            go_wp2
            go_ret
            exact ⟨by first | rfl | (simp [errW_none, errW_some] <;> rfl) | (simp [*, errW_none, errW_some] <;> rfl), by repeat (first | (with_reducible first | exact HB.out | apply below_alloc | apply pw_below_drewN | apply below_drew1 | refine below_set ?_ GE116.out) | exact HB.out)⟩

end Go.Proofs.Yteaefambkagpbaa.F

-- F8
namespace Go.Proofs.Yteaefambkagpbaa.F
open Go.RowKit Go.Proofs.YteaefambkagpbaaW.PrintWords Go.Proofs.YteaefambkagpbaaW.PrintLast Go.Proofs.YteaefambkagpbaaW.PrintMore
attribute [local go_sem] max2_int min2_int max_two min_two max_three min_three max_four min_four   -- for this text's walks alone
set_option linter.unusedVariables false
set_option linter.unusedSimpArgs false

end Go.Proofs.Yteaefambkagpbaa.F

-- F9
namespace Go.Proofs.Yteaefambkagpbaa.F
open Go.RowKit Go.Proofs.YteaefambkagpbaaW.PrintWords Go.Proofs.YteaefambkagpbaaW.PrintLast Go.Proofs.YteaefambkagpbaaW.PrintMore
attribute [local go_sem] max2_int min2_int max_two min_two max_three min_three max_four min_four   -- for this text's walks alone
set_option linter.unusedVariables false
set_option linter.unusedSimpArgs false

end Go.Proofs.Yteaefambkagpbaa.F

-- F10
namespace Go.Proofs.Yteaefambkagpbaa.F
open Go.RowKit Go.Proofs.YteaefambkagpbaaW.PrintWords Go.Proofs.YteaefambkagpbaaW.PrintLast Go.Proofs.YteaefambkagpbaaW.PrintMore
attribute [local go_sem] max2_int min2_int max_two min_two max_three min_three max_four min_four   -- for this text's walks alone
set_option linter.unusedVariables false
set_option linter.unusedSimpArgs false

end Go.Proofs.Yteaefambkagpbaa.F

-- F14
namespace Go.Proofs.Yteaefambkagpbaa.F
open Go.RowKit Go.Proofs.YteaefambkagpbaaW.PrintWords Go.Proofs.YteaefambkagpbaaW.PrintLast Go.Proofs.YteaefambkagpbaaW.PrintMore
attribute [local go_sem] max2_int min2_int max_two min_two max_three min_three max_four min_four   -- for this text's walks alone
set_option linter.unusedVariables false
set_option linter.unusedSimpArgs false

-- NOT PRINTED: function 3 (strongroomlaw26_LinkPackets)

end Go.Proofs.Yteaefambkagpbaa.F

-- LnkM
namespace Go.Proofs.Yteaefambkagpbaa.F
open Go Go.RowKit Go.Proofs.YteaefambkagpbaaW.PrintWords Go.Proofs.YteaefambkagpbaaW.PrintLast Go.Proofs.YteaefambkagpbaaW.PrintMore Go.Proofs.YteaefambkagpbaaM Go.Proofs.YteaefambkagpbaaR
set_option linter.unusedSimpArgs false
set_option linter.unusedVariables false
set_option maxRecDepth 100000
/-- a packet -/
structure Pk where
  r : Bool
  n : Int
  l : Bool
  d : ByteArray
  b : Int
def Pk.v (p : Pk) : Value := .agg #[.bool p.r, .int .i64 p.n, .bool p.l, .string p.d, .int .i64 p.b]
def rightP (p : Pk) : Bool :=
  decide (0 ≤ p.n ∧ p.n ≤ 1099511627776) && (if p.r then decide (0 ≤ p.b ∧ p.b < 65536 ∧ p.b % 2 = 0) && !p.l && decide (p.d.size = 0) else decide (p.d.size ≤ 200) && (p.l || decide (p.d.size = 200)) && decide (p.b = 0))
theorem and1 (x : Int) (h0 : 0 ≤ x) (h1 : x < 65536) : Go.bits .and .i64 x 1 = x % 2 := by
  have := bits_mask .i64 16 (by decide) (fun n h2 h3 => IntWalk.i64_in _ (by omega)) 1 (by decide) x (by omega) (by omega)
  rw [show ((2 : Int) ^ 1 - 1) = 1 from by decide, show ((2 : Int) ^ 1) = 2 from by decide] at this
  exact this
theorem nil_dec (d : ByteArray) : (d.toList == ([] : List UInt8)) = decide (d.size = 0) := by
  rw [Bool.eq_iff_iff]
  simp only [beq_iff_eq, decide_eq_true_eq]
  rw [ByteArray.toList_eq]
  cases d with | mk a => simp [ByteArray.size]
theorem right_f (k : Nat) (p : Pk) (hb0 : -9223372036854775808 ≤ p.b) : link_Right.f (k + 1) p.r p.n p.l p.d p.b = some (rightP p) := by
  obtain ⟨r, n, l, d, b⟩ := p
  unfold link_Right.f rightP
  simp only [link_Right.j0, nil_dec]
  by_cases h1 : n < 0
  · rw [if_pos h1]; simp; intro h; omega
  · rw [if_neg h1]
    by_cases h2 : n > 1099511627776
    · rw [if_pos (by simpa using h2)]; simp; intro h h'; omega
    · rw [if_neg (by simpa using h2)]
      have hn : decide (0 ≤ n ∧ n ≤ 1099511627776) = true := decide_eq_true (by omega)
      rw [hn, Bool.true_and]
      cases r with
      | true =>
        simp only [if_true]
        by_cases h3 : b ≥ 0
        · rw [if_pos h3]
          by_cases h4 : b < 65536
          · rw [if_pos h4, and1 b h3 h4]
            by_cases h5 : b % 2 = 0
            · rw [if_pos h5, decide_eq_true (show 0 ≤ b ∧ b < 65536 ∧ b % 2 = 0 from ⟨h3, h4, h5⟩)]
              cases l <;> simp
            · rw [if_neg h5, decide_eq_false (show ¬ (0 ≤ b ∧ b < 65536 ∧ b % 2 = 0) from fun h => h5 h.2.2)]; simp
          · rw [if_neg h4, decide_eq_false (show ¬ (0 ≤ b ∧ b < 65536 ∧ b % 2 = 0) from fun h => h4 h.2.1)]; simp
        · rw [if_neg h3, decide_eq_false (show ¬ (0 ≤ b ∧ b < 65536 ∧ b % 2 = 0) from fun h => h3 h.1)]; simp
      | false =>
        simp only [Bool.false_eq_true, if_false]
        by_cases h3 : (d.size : Int) ≤ 200
        · rw [if_pos h3, decide_eq_true (show d.size ≤ 200 by omega)]
          cases l with
          | true => simp; rfl
          | false =>
            by_cases h4 : (d.size : Int) = 200
            · rw [if_neg (by simp), if_pos h4, decide_eq_true (show d.size = 200 by omega)]; simp; rfl
            · rw [if_neg (by simp), if_neg h4, decide_eq_false (show ¬ d.size = 200 by omega)]; simp
        · rw [if_neg h3, decide_eq_false (show ¬ d.size ≤ 200 by omega)]; simp
theorem right_c (p : Pk) (hb0 : -9223372036854775808 ≤ p.b) (w : World) : Calls Try.prog 11 #[p.v] w (Tells w (Is (.bool (rightP p)))) :=
  tells_is ((link_Right.calls 1 _ _ _ _ _ _ w (right_f 0 p hb0)).mono fun _ _ h => h)
end Go.Proofs.Yteaefambkagpbaa.F

-- LnkD
namespace Go.Proofs.Yteaefambkagpbaa.F
open Go Go.RowKit Go.Proofs.YteaefambkagpbaaW.PrintWords Go.Proofs.YteaefambkagpbaaW.PrintLast Go.Proofs.YteaefambkagpbaaW.PrintMore Go.Proofs.YteaefambkagpbaaM Go.Proofs.YteaefambkagpbaaR
set_option linter.unusedSimpArgs false
set_option linter.unusedVariables false
structure RightR (p : Pk) : Prop where
  n0 : 0 ≤ p.n
  n1 : p.n ≤ 1099511627776
  rcp : p.r = true → 0 ≤ p.b ∧ p.b < 65536 ∧ p.l = false ∧ p.d = ⟨#[]⟩
  par : p.r = false → p.d.size ≤ 200 ∧ p.b = 0
theorem size0 {d : ByteArray} (h : d.size = 0) : d = ⟨#[]⟩ := by
  cases d with | mk a => exact congrArg _ (Array.eq_empty_of_size_eq_zero h)
theorem rightR {p : Pk} (h : rightP p = true) : RightR p := by
  unfold rightP at h
  simp only [Bool.and_eq_true, decide_eq_true_eq] at h
  obtain ⟨⟨h0, h1⟩, h2⟩ := h
  refine ⟨h0, h1, fun hr => ?_, fun hr => ?_⟩
  · rw [hr] at h2
    simp only [if_true, Bool.and_eq_true, decide_eq_true_eq, Bool.not_eq_true'] at h2
    exact ⟨h2.1.1.1, h2.1.1.2.1, h2.1.2, size0 h2.2⟩
  · rw [hr] at h2
    simp only [Bool.false_eq_true, if_false, Bool.and_eq_true, decide_eq_true_eq] at h2
    exact ⟨h2.1.1, h2.2⟩
end Go.Proofs.Yteaefambkagpbaa.F

-- Upd
namespace Go.Proofs.Yteaefambkagpbaa.F
open Go Go.RowKit Go.Proofs.YteaefambkagpbaaW.PrintWords Go.Proofs.YteaefambkagpbaaW.PrintLast Go.Proofs.YteaefambkagpbaaW.PrintMore Go.Proofs.YteaefambkagpbaaR
set_option linter.unusedSimpArgs false
set_option linter.unusedVariables false
/-- all but the blocks of S stays -/
structure Upd (S : Nat → Prop) (w w' : World) : Prop where
  os : w'.os = w.os
  tape : w'.tape = w.tape
  output : w'.output = w.output
  size : w.heap.size ≤ w'.heap.size
  block : ∀ k, k < w.heap.size → ¬ S k → w'.heap[k]? = w.heap[k]?
theorem Upd.refl (S : Nat → Prop) (w : World) : Upd S w w := ⟨rfl, rfl, rfl, Nat.le_refl _, fun _ _ _ => rfl⟩
theorem Upd.of_grew {S : Nat → Prop} {w w' : World} (h : Grew w w') : Upd S w w' := ⟨h.os, h.tape, h.output, h.size, fun k hk _ => h.block k hk⟩
theorem Upd.then_ {S S2 : Nat → Prop} {a b c : World} (h : Upd S a b) (k : Upd S2 b c) (hs : ∀ i, i < a.heap.size → S2 i → S i) : Upd S a c :=
  ⟨k.os.trans h.os, k.tape.trans h.tape, k.output.trans h.output, Nat.le_trans h.size k.size, fun i hi hn => (k.block i (Nat.lt_of_lt_of_le hi h.size) (fun h2 => hn (hs i hi h2))).trans (h.block i hi hn)⟩
theorem Upd.trans {S : Nat → Prop} {a b c : World} (h : Upd S a b) (k : Upd S b c) : Upd S a c := h.then_ k fun _ _ h => h
theorem Upd.mono {S S2 : Nat → Prop} {a b : World} (h : Upd S a b) (hs : ∀ i, i < a.heap.size → S i → S2 i) : Upd S2 a b :=
  ⟨h.os, h.tape, h.output, h.size, fun i hi hn => h.block i hi (fun h2 => hn (hs i hi h2))⟩
theorem Upd.grew {S : Nat → Prop} {a b : World} (h : Upd S a b) (hs : ∀ i, i < a.heap.size → ¬ S i) : Grew a b := ⟨h.os, h.tape, h.output, h.size, fun i hi => h.block i hi (hs i hi)⟩
theorem Upd.below {S : Nat → Prop} {a b : World} {B : Nat} (h : Upd S a b) (hB : B ≤ a.heap.size) (hs : ∀ i, S i → B ≤ i) : Below B a b :=
  ⟨h.os, h.tape, h.output, h.size, fun i hi => h.block i (Nat.lt_of_lt_of_le hi hB) (fun h2 => by have := hs i h2; omega)⟩
theorem Upd.set {S : Nat → Prop} {a b : World} (h : Upd S a b) {p : Addr} (hp : S p.block ∨ a.heap.size ≤ p.block) (u : Value) : Upd S a (b.setCell p u) :=
  ⟨h.os, h.tape, h.output, by simp [World.setCell]; exact h.size, fun i hi hn => by
    rw [Below.heap_setCell b p u i (fun e => by subst e; rcases hp with hp | hp; exact hn hp; omega)]
    exact h.block i hi hn⟩
theorem Upd.kept {S : Nat → Prop} {a b : World} (h : Upd S a b) : Kept a b S := ⟨h.size, fun i hi hn => h.block i hi hn⟩
theorem Upd.blk {S : Nat → Prop} {a b : World} {g : Nat} {o : Obj} (h : Upd S a b) (hb : a.heap[g]? = some o) (hn : ¬ S g) : b.heap[g]? = some o := (h.block g (blk_lt hb) hn).trans hb
theorem Upd.cell {S : Nat → Prop} {a b : World} {p : Addr} {v : Value} (h : Upd S a b) (hb : a.cell? p = some v) (hn : ¬ S p.block) : b.cell? p = some v := cell_kept hb h.kept hn
theorem Upd.grown {S : Nat → Prop} {a b c : World} {row : Option Nat} (h : Upd S a b) (hg : b.grownBy c row) (hr : ∀ k, row = some k → S k ∨ a.heap.size ≤ k) : Upd S a c :=
  ⟨hg.os.trans h.os, hg.tape.trans h.tape, hg.output.trans h.output, Nat.le_trans h.size hg.size, fun i hi hn => (hg.block i (Nat.lt_of_lt_of_le hi h.size) (fun e => by rcases hr i e.symm with h2 | h2; exact hn h2; omega)).trans (h.block i hi hn)⟩
theorem Upd.own {S : Nat → Prop} {w w1 : World} {base : Nat} {e : TypeId} {size n : Nat} {v : Value} {xs : List Value} (hu : Upd S w w1) (h : w.ownsRow base e size v n xs) (hn : ∀ k, v.ownBlock = some k → ¬ S k) : w1.ownsRow base e size v n xs :=
  own_move h fun k hk => hu.block k (own_lt h k hk) (hn k hk)
/-- a block known whole: its cells -/
def Blk (w : World) (g : Nat) (t : TypeId) (cs : List Value) : Prop := w.heap[g]? = some (.cells cs.toArray t (0, 0))
theorem Blk.lt {w : World} {g : Nat} {t : TypeId} {cs : List Value} (h : Blk w g t cs) : g < w.heap.size := blk_lt h
theorem Blk.at_ {w : World} {g : Nat} {t : TypeId} {cs : List Value} (h : Blk w g t cs) (i : Nat) : w.cell? ⟨g, i, none⟩ = cs[i]? := by
  rw [blk_cell h]; simp
theorem Blk.fz {w : World} {g : Nat} {t : TypeId} {cs : List Value} (h : Blk w g t cs) (i : Nat) : w.frozen? ⟨g, i, none⟩ = false := blk_frozen h i
theorem Blk.set {w : World} {g : Nat} {t : TypeId} {cs : List Value} (h : Blk w g t cs) (i : Nat) (u : Value) : Blk (w.setCell ⟨g, i, none⟩ u) g t (cs.set i u) := by
  have := blk_set h i u
  unfold Blk
  rw [this]; simp
theorem Blk.far {w : World} {g : Nat} {t : TypeId} {cs : List Value} (h : Blk w g t cs) {p : Addr} (hp : g ≠ p.block) (u : Value) : Blk (w.setCell p u) g t cs := blk_far h hp u
theorem Blk.upd {S : Nat → Prop} {w w' : World} {g : Nat} {t : TypeId} {cs : List Value} (h : Blk w g t cs) (hu : Upd S w w') (hn : ¬ S g) : Blk w' g t cs := hu.blk h hn
theorem Blk.grew {w w' : World} {g : Nat} {t : TypeId} {cs : List Value} (h : Blk w g t cs) (hu : Grew w w') : Blk w' g t cs := blk_below h hu
theorem Blk.new (w : World) (t : TypeId) (cs : List Value) : Blk (w.alloc (.cells cs.toArray t)) w.heap.size t cs := blk_new w _
/-- a block of numbers reads as a row -/
theorem Blk.own {w : World} {base g : Nat} {t : TypeId} {k : IntKind} {xs : List Int} {n : Nat} (h : Blk w g t (nums k xs)) (hb : base ≤ g) (hn : n ≤ xs.length) (hm : xs.length ≤ 9223372036854775807) : w.ownsRow base t 1 (.slice (some ⟨g, 0, none⟩) n xs.length) n (nums k (xs.take n)) := by
  refine ⟨by simp [nums, Nat.min_eq_left hn], .inr ⟨g, xs.length, (nums k xs).toArray, rfl, hb, h, hn, by simpa [maxLen] using hm, by simp [nums], ?_⟩⟩
  simp [nums, List.map_take]
theorem Blk.reads {w : World} {g : Nat} {t : TypeId} {k : IntKind} {xs : List Int} (h : Blk w g t (nums k xs)) (hm : xs.length ≤ 9223372036854775807) : ReadsInt w k (some ⟨g, 0, none⟩) xs.length xs :=
  ⟨rfl, hm, fun _ => ⟨_, rfl, fun i hi => by rw [add_plain, h.at_]; simp [nums, hi, List.getD_eq_getElem?_getD]⟩⟩
theorem Blk.C {w : World} {g : Nat} {t : TypeId} {k : IntKind} {xs : List Int} (h : Blk w g t (nums k xs)) (hm : xs.length ≤ 9223372036854775807) : Kd.C (Kd.int k) w (some ⟨g, 0, none⟩) xs.length xs := C_of (h.reads hm)
/-- what an append leaves: a row of one's own, in the block it had or in a new one -/
def Appended {α : Type} (enc : α → Value) (base : Nat) (e : TypeId) (v : Value) (xs : List α) (W : World) (v1 : Value) (w1 : World) : Prop :=
  w1.ownsRow base e 1 v1 xs.length (encs enc xs) ∧ W.grownBy w1 v.ownBlock ∧ (v1.ownBlock = v.ownBlock ∨ v1.ownBlock = some W.heap.size)
theorem Appended.upd {α : Type} {enc : α → Value} {base : Nat} {e : TypeId} {v v1 : Value} {xs : List α} {W w1 : World} (h : Appended enc base e v xs W v1 w1) : Upd (fun k => v.ownBlock = some k) W w1 :=
  (Upd.refl _ W).grown h.2.1 fun k hk => .inl hk
/-- a row of one's own, cut short -/
theorem own_take {w : World} {base n m cap size : Nat} {e : TypeId} {A : Option Addr} {xs : List Value} (h : w.ownsRow base e size (.slice A n cap) n xs) (hm : m ≤ n) : w.ownsRow base e size (.slice A m cap) m (xs.take (m * size)) := by
  obtain ⟨hl, h⟩ := h
  refine ⟨by rw [List.length_take, hl]; exact Nat.min_eq_left (Nat.mul_le_mul_right _ hm), ?_⟩
  rcases h with ⟨hv, hn⟩ | ⟨g, cap', cur, hv, hb, hh, hnc, hcm, hcs, htake⟩
  · injection hv with h1 h2 h3
    subst h1 h3
    obtain rfl : m = 0 := by omega
    exact .inl ⟨rfl, rfl⟩
  · injection hv with h1 h2 h3
    subst h1 h3
    refine .inr ⟨g, cap, cur, rfl, hb, hh, by omega, hcm, hcs, ?_⟩
    rw [← htake, List.take_take, Nat.min_eq_left (Nat.mul_le_mul_right _ hm)]
/-- a slice of one element in a block of its own, which is not the row that is written -/
def One (e : TypeId) (x : Value) (vb : Value) : World → Value → Prop := fun w v => ∃ g1, v = .slice (some ⟨g1, 0, none⟩) 1 1 ∧ Blk w g1 e [x] ∧ some g1 ≠ vb.ownBlock
theorem eval_tmp {a : Act} {t : Tmp} {v : Value} (h : a.tmps[t]?.getD undef = v) : a.eval (.tmp t) = v := by simpa [Act.eval] using h
/-- append as one operation, by the equation of its run -/
theorem wp_app {P : Program} {o : Oper} {a : Act} {w : World} {K : Act → World → Prop} {Q : Exit → Act → World → Prop} (s x : Operand) (t : TypeId)
    (ho : o.op = .call { callee := .builtin .append, args := #[s, x], argTypes := #[t, t] }) {v y : Value} (hs : a.eval s = v) (hx : a.eval x = y) {v1 : Value} {w1 : World}
    (hr : (Builtin.append_ #[t, t] o.type #[v, y]).run P w = .ok v1 w1) (h : K (a.put o.dst v1) w1) : Oper.wp P o a w K Q := by
  unfold Oper.wp execOp
  simp only [ho, resolve, invoke, builtin, Sem.run_bind, Sem.run_pure, Result.andThen_ok, List.map_toArray, List.map_cons, List.map_nil, hs, hx, hr]
  exact h
theorem wpList_app {P : Program} {ops : Array Oper} {rest : List Oper} {o : Oper} {a : Act} {w : World} {Q : Exit → Act → World → Prop} (hgd : o.guard = none) (s x : Operand) (t : TypeId)
    (ho : o.op = .call { callee := .builtin .append, args := #[s, x], argTypes := #[t, t] }) {v y : Value} (hs : a.eval s = v) (hx : a.eval x = y) {v1 : Value} {w1 : World}
    (hr : (Builtin.append_ #[t, t] o.type #[v, y]).run P w = .ok v1 w1) (h : wpList P ops Q rest (a.put o.dst v1) w1) : wpList P ops Q (o :: rest) a w :=
  wpList_plain hgd fun K hK => wp_app s x t ho hs hx hr (hK _ _ h)
theorem Upd.of_grown {w w' : World} {row : Option Nat} (h : w.grownBy w' row) : Upd (fun k => row = some k) w w' := (Upd.refl _ w).grown h fun k hk => .inl hk
theorem Upd.of_alloc_grown {w wn : World} {o : Obj} {row : Option Nat} (h : (w.alloc o).grownBy wn row) : Upd (fun k => row = some k) w wn :=
  (Upd.of_grew (Grew.alloc w o)).then_ (Upd.of_grown h) fun _ _ h => h
end Go.Proofs.Yteaefambkagpbaa.F

-- F34
namespace Go.Proofs.Yteaefambkagpbaa.F
open Go.RowKit Go.Proofs.YteaefambkagpbaaW.PrintWords Go.Proofs.YteaefambkagpbaaW.PrintLast Go.Proofs.YteaefambkagpbaaW.PrintMore Go Go.Proofs.YteaefambkagpbaaR
attribute [local go_sem] max2_int min2_int max_two min_two max_three min_three max_four min_four   -- for this text's walks alone
set_option linter.unusedVariables false
set_option linter.unusedSimpArgs false

end Go.Proofs.Yteaefambkagpbaa.F

-- LnkE
namespace Go.Proofs.Yteaefambkagpbaa.F
open Go Go.RowKit Go.Proofs.YteaefambkagpbaaW.PrintWords Go.Proofs.YteaefambkagpbaaW.PrintLast Go.Proofs.YteaefambkagpbaaW.PrintMore Go.Proofs.YteaefambkagpbaaM Go.Proofs.YteaefambkagpbaaR
attribute [local go_sem] max2_int min2_int max_two min_two
set_option linter.unusedSimpArgs false
set_option linter.unusedVariables false
set_option maxRecDepth 100000
end Go.Proofs.Yteaefambkagpbaa.F

-- Grp
namespace Go.Proofs.Yteaefambkagpbaa.F
open Go Go.RowKit Go.Proofs.YteaefambkagpbaaW.PrintWords Go.Proofs.YteaefambkagpbaaW.PrintLast Go.Proofs.YteaefambkagpbaaW.PrintMore Go.Proofs.YteaefambkagpbaaR
open Go.ChangeMaps Go.MapKept Go.ChangeShapes
open Go.WideElems (Fit rd rg pl rd_val elemAt)
open Go.Maps (Keyed)
set_option linter.unusedSimpArgs false
set_option linter.unusedVariables false
section
variable {H : Type} {P : Program} {k : TypeId} {w w' : World} {base : Nat} {e : TypeId} {q : IntKind} {b n : Nat} {D : DataW H}
theorem own_cells {size n : Nat} {v : Value} {xs : List Value} (h : w.ownsRow base e size v n xs) {g : Nat} (hg : v.ownBlock = some g) : ∃ cur, w.heap[g]? = some (.cells cur e (0, 0)) := by
  rcases h.2 with ⟨rfl, _⟩ | ⟨g', cap, cur, rfl, _, hh, _⟩
  · simp [Value.ownBlock] at hg
  · have : g' = g := by simpa [Value.ownBlock] using hg
    subst this
    exact ⟨cur, hh⟩
/-- a slice of one element of some cells in a block of its own, which is not the row that is written -/
def OneC (e : TypeId) (cs : List Value) (vb : Value) : World → Value → Prop := fun w v => ∃ g1, v = .slice (some ⟨g1, 0, none⟩) 1 1 ∧ Blk w g1 e cs ∧ some g1 ≠ vb.ownBlock
theorem OneC.stableB (e : TypeId) (cs : List Value) (vb : Value) : ∀ w w' v, Grew w w' ∨ w.grownBy w' vb.ownBlock → OneC e cs vb w v → OneC e cs vb w' v :=
  fun _ _ _ hr ⟨g1, h1, h2, h3⟩ => ⟨g1, h1, hr.elim h2.grew (fun hg => blk_grown h2 hg h3), h3⟩
theorem OneC.new {w : World} {e : TypeId} {cs : List Value} {vb : Value} (h : ∀ k, vb.ownBlock = some k → k < w.heap.size) : OneC e cs vb (w.alloc (.cells cs.toArray e)) (.slice (some ⟨w.heap.size, 0, none⟩) 1 1) :=
  ⟨_, rfl, Blk.new w e cs, fun he => by have := h _ he.symm; omega⟩
/-- one element, of some cells in a block of its own, behind a row of one's own -/
theorem app_cells {P : Program} (W : World) (base : Nat) (t e ty : TypeId) (z : Value) (size bytes : Nat) (ht : P.underlying t = some (.slice e)) (hinfo : (P.info? e).map (fun i => (i.zero, i.size, i.bytes)) = some (some z, size, bytes)) (hz : z.cells.size = size) (hs0 : 0 < size) (hb0 : 0 < bytes)
    (v : Value) (n : Nat) (xs : List Value) (g1 : Nat) (cs : List Value) (hcs : cs.length = size) (h1 : ∀ u ∈ cs, u.oneCell' = true) (HO : W.ownsRow base e size v n xs) (HB : Blk W g1 e cs) (hbase : base ≤ W.heap.size) (hl : (n + 1) * bytes ≤ 140737488355328) :
    ∃ v1 w1, (Builtin.append_ #[t, t] ty #[v, .slice (some ⟨g1, 0, none⟩) 1 1]).run P W = .ok v1 w1 ∧ w1.ownsRow base e size v1 (n + 1) (xs ++ cs) ∧ W.grownBy w1 v.ownBlock ∧ (v1.ownBlock = v.ownBlock ∨ ∃ k, v1.ownBlock = some k ∧ W.heap.size ≤ k) := by
  obtain ⟨i0, hi, hzz⟩ := Option.map_eq_some_iff.1 hinfo
  simp only [Prod.mk.injEq] at hzz
  obtain ⟨hz0, hz1, hz2⟩ := hzz
  have hlen : n + 1 ≤ 140737488355328 := Nat.le_trans (Nat.le_mul_of_pos_right _ hb0) hl
  obtain ⟨v1, w1, hr, h2, h3, _, h5⟩ := run_append_own_at (P := P) W base t ty e i0 z size bytes ht hi hz0 hz1 hz2 hz hs0 v n xs HO ⟨g1, 0, none⟩ 1 1 cs (by rw [hcs]; simp)
    (fun j u hu => by rw [add_plain, HB.at_]; simpa using hu) h1 (by simp only [maxLen]; omega) hl hbase
  exact ⟨v1, w1, hr, h2, h3, h5.imp id fun h => ⟨_, h, Nat.le_refl _⟩⟩
/-- any append by the equation of its run -/
theorem wpList_app2 {P : Program} {ops : Array Oper} {rest : List Oper} {o : Oper} {a : Act} {w : World} {Q : Exit → Act → World → Prop} (hgd : o.guard = none) (s x : Operand) (t u : TypeId)
    (ho : o.op = .call { callee := .builtin .append, args := #[s, x], argTypes := #[t, u] }) {v y : Value} (hs : a.eval s = v) (hx : a.eval x = y) {v1 : Value} {w1 : World}
    (hr : (Builtin.append_ #[t, u] o.type #[v, y]).run P w = .ok v1 w1) (h : wpList P ops Q rest (a.put o.dst v1) w1) : wpList P ops Q (o :: rest) a w :=
  wpList_plain hgd fun K hK => by
    unfold Oper.wp execOp
    simp only [ho, resolve, invoke, builtin, Sem.run_bind, Sem.run_pure, Result.andThen_ok, List.map_toArray, List.map_cons, List.map_nil, hs, hx, hr]
    exact hK _ _ h
end
end Go.Proofs.Yteaefambkagpbaa.F

-- Arr
namespace Go.Proofs.Yteaefambkagpbaa.F
open Go Go.RowKit Go.Proofs.YteaefambkagpbaaW.PrintWords Go.Proofs.YteaefambkagpbaaW.PrintLast Go.Proofs.YteaefambkagpbaaW.PrintMore Go.Proofs.YteaefambkagpbaaR
set_option linter.unusedSimpArgs false
set_option linter.unusedVariables false
theorem Blk.setRow {w : World} {g : Nat} {t : TypeId} {cs : List Value} (h : Blk w g t cs) (c : List Value) : Blk (w.setRow g c.toArray) g t c := setRow_heap w g _ _ t (0, 0) h
theorem Blk.farRow {w : World} {g k : Nat} {t : TypeId} {cs : List Value} (h : Blk w g t cs) (hne : g ≠ k) (c : Array Value) : Blk (w.setRow k c) g t cs := (setRow_other w k g c hne).trans h
theorem Upd.setRow {S : Nat → Prop} {a b : World} {g : Nat} (h : Upd S a b) (hp : S g ∨ a.heap.size ≤ g) (c : Array Value) : Upd S a (b.setRow g c) :=
  ⟨h.os, h.tape, h.output, by rw [setRow_size]; exact h.size, fun k hk hn => by
    rw [setRow_other _ _ _ _ (fun e => by subst e; rcases hp with hp | hp; exact hn hp; omega)]; exact h.block k hk hn⟩
theorem Grew.setRow {a b : World} {g : Nat} (h : Grew a b) (hp : a.heap.size ≤ g) (c : Array Value) : Grew a (b.setRow g c) :=
  ⟨h.os, h.tape, h.output, by rw [setRow_size]; exact h.size, fun k hk => by rw [setRow_other _ _ _ _ (by omega)]; exact h.block k hk⟩
theorem wpList_store_blk {P : Program} {ops : Array Oper} {rest : List Oper} {o : Oper} {a : Act} {w : World} {Q : Exit → Act → World → Prop} {cs c : List Value} {t : TypeId} {g : Nat} (hg : Blk w g t cs) (hgd : o.guard = none) (ty : TypeId) (x y : Operand) (ho : o.op = .store ty x y)
    (hx : a.eval x = .pointer (some ⟨g, 0, none⟩)) (hy : a.eval y = .agg c.toArray) (hi : (P.info? ty).map (·.size) = some c.length)
    (hl : cs.length = c.length) (h1 : c.toArray.all (·.oneCell') = true)
    (h : wpList P ops Q rest (a.put o.dst undef) (w.setRow g c.toArray)) : wpList P ops Q (o :: rest) a w :=
  wpList_store_row hgd ty x y ho g c.toArray hx hy t cs.toArray hg (by simpa using hi) (by simpa using hl) h1 h
theorem results_blk {P : Program} {fn : Func} {p : Tmp} {ty : TypeId} (h : fn.results = #[.cell p ty]) (tmps : Array Value) {w : World} {g : Nat} {t : TypeId} {cs : List Value} (hg : Blk w g t cs) (d : TypeDesc)
    (hp : tmps.getD p undef = .pointer (some ⟨g, 0, none⟩))
    (hu : P.underlying ty = some d) (hd : d.isRow = true) (hi : (P.info? ty).map (·.size) = some cs.length) :
    (results fn tmps).run P w = .ok (.agg cs.toArray) w :=
  results_cell_row h tmps w g t cs.toArray (0, 0) d hp hg hu (by cases d <;> simp_all) (by simpa using hi)
end Go.Proofs.Yteaefambkagpbaa.F

-- LnkF
namespace Go.Proofs.Yteaefambkagpbaa.F
open Go Go.RowKit Go.Proofs.YteaefambkagpbaaW.PrintWords Go.Proofs.YteaefambkagpbaaW.PrintLast Go.Proofs.YteaefambkagpbaaW.PrintMore Go.Proofs.YteaefambkagpbaaM Go.Proofs.YteaefambkagpbaaR
attribute [local go_sem] max2_int min2_int max_two min_two
set_option linter.unusedSimpArgs false
set_option linter.unusedVariables false
set_option maxRecDepth 100000
def zcells : List Value := [.bool false, .int .i64 0, .bool false, .string ⟨#[]⟩, .int .i64 0]
end Go.Proofs.Yteaefambkagpbaa.F

-- RowO
namespace Go.Proofs.Yteaefambkagpbaa.F
open Go Go.RowKit Go.Proofs.YteaefambkagpbaaW.PrintWords Go.Proofs.YteaefambkagpbaaW.PrintLast Go.Proofs.YteaefambkagpbaaW.PrintMore Go.Proofs.YteaefambkagpbaaR
set_option linter.unusedSimpArgs false
set_option linter.unusedVariables false
/-- v is a row of n elements with these cells, in a block of its own that lies from base on -/
def RowO (w : World) (base : Nat) (e : TypeId) (size : Nat) (v : Value) (n : Nat) (xs : List Value) : Prop :=
  xs.length = n * size ∧ ((v = .slice none 0 0 ∧ n = 0) ∨ ∃ g o cap cur, v = .slice (some ⟨g, o, none⟩) n cap ∧ base ≤ g ∧ w.heap[g]? = some (.cells cur e (0, 0)) ∧ n ≤ cap ∧ cap ≤ maxLen ∧ o + cap * size ≤ cur.size ∧ (cur.toList.drop o).take (n * size) = xs)
section
variable {w w' : World} {base : Nat} {e : TypeId} {size : Nat} {v : Value} {n : Nat} {xs : List Value}
theorem rowO_of_own (h : w.ownsRow base e size v n xs) : RowO w base e size v n xs := by
  refine ⟨h.1, h.2.imp id fun ⟨g, cap, cur, h1, h2, h3, h4, h5, h6, h7⟩ => ⟨g, 0, cap, cur, h1, h2, h3, h4, h5, by omega, by simpa using h7⟩⟩
theorem rowO_nil (w : World) (base : Nat) (e : TypeId) (size : Nat) : RowO w base e size (.slice none 0 0) 0 [] := ⟨by simp, .inl ⟨rfl, rfl⟩⟩
theorem RowO.slice (h : RowO w base e size v n xs) : ∃ A c, v = .slice A n c ∧ n ≤ c := by
  rcases h.2 with ⟨rfl, rfl⟩ | ⟨g, o, cap, cur, rfl, _, _, hn, _⟩
  · exact ⟨none, 0, rfl, Nat.le_refl _⟩
  · exact ⟨_, cap, rfl, hn⟩
theorem RowO.base_ (h : RowO w base e size v n xs) (k : Nat) (hk : v.ownBlock = some k) : base ≤ k := by
  rcases h.2 with ⟨rfl, _⟩ | ⟨g, o, cap, cur, rfl, hb, _⟩
  · simp [Value.ownBlock] at hk
  · have : g = k := by simpa [Value.ownBlock] using hk
    omega
theorem RowO.lt (h : RowO w base e size v n xs) (k : Nat) (hk : v.ownBlock = some k) : k < w.heap.size := by
  rcases h.2 with ⟨rfl, _⟩ | ⟨g, o, cap, cur, rfl, hb, hh, _⟩
  · simp [Value.ownBlock] at hk
  · have : g = k := by simpa [Value.ownBlock] using hk
    subst this
    exact blk_lt hh
theorem RowO.move (h : RowO w base e size v n xs) (hm : ∀ k, v.ownBlock = some k → w'.heap[k]? = w.heap[k]?) : RowO w' base e size v n xs := by
  refine ⟨h.1, h.2.imp id fun ⟨g, o, cap, cur, h1, h2, h3, h4⟩ => ⟨g, o, cap, cur, h1, h2, ?_, h4⟩⟩
  rw [hm g (by rw [h1]; rfl)]; exact h3
theorem RowO.upd {S : Nat → Prop} (h : RowO w base e size v n xs) (hu : Upd S w w') (hn : ∀ k, v.ownBlock = some k → ¬ S k) : RowO w' base e size v n xs :=
  h.move fun k hk => hu.block k (h.lt k hk) (hn k hk)
theorem RowO.grew (h : RowO w base e size v n xs) (hu : Grew w w') : RowO w' base e size v n xs := h.move fun k hk => hu.block k (h.lt k hk)
theorem RowO.ne {g : Nat} {t : TypeId} {cs : List Value} (h : RowO w base e size v n xs) (hg : Blk w g t cs) (hne : e ≠ t) : v.ownBlock ≠ some g := by
  intro he
  rcases h.2 with ⟨rfl, _⟩ | ⟨g', o, cap, cur, rfl, hb, hh, _⟩
  · simp [Value.ownBlock] at he
  · have : g' = g := by simpa [Value.ownBlock] using he
    subst this
    unfold Blk at hg
    rw [hg] at hh
    injection hh with hh
    injection hh with h1 h2 h3
    exact hne h2.symm
theorem RowO.type_ne {b2 n2 s2 : Nat} {e2 : TypeId} {v2 : Value} {ys : List Value} (h : RowO w base e size v n xs) (h2 : RowO w b2 e2 s2 v2 n2 ys) (hne : e ≠ e2) : ∀ k, v.ownBlock = some k → v2.ownBlock ≠ some k := by
  intro k hk hk2
  rcases h.2 with ⟨rfl, _⟩ | ⟨g, o, cap, cur, rfl, hb, hh, _⟩
  · simp [Value.ownBlock] at hk
  · rcases h2.2 with ⟨rfl, _⟩ | ⟨g', o', cap', cur', rfl, hb', hh', _⟩
    · simp [Value.ownBlock] at hk2
    · have e1 : g = k := by simpa [Value.ownBlock] using hk
      have e2 : g' = k := by simpa [Value.ownBlock] using hk2
      subst e1
      subst e2
      rw [hh] at hh'
      injection hh' with hh'
      injection hh' with h1 h2 h3
      exact hne h2
/-- its cells -/
theorem RowO.at_ (h : RowO w base e size v n xs) (hp : 0 < n) : ∃ g o cap, v = .slice (some ⟨g, o, none⟩) n cap ∧ n ≤ cap ∧ base ≤ g ∧ g < w.heap.size ∧ (∀ j, j < n * size → w.cell? ⟨g, o + j, none⟩ = xs[j]?) ∧ ∀ j, w.frozen? ⟨g, j, none⟩ = false := by
  rcases h.2 with ⟨rfl, h0⟩ | ⟨g, o, cap, cur, rfl, hb, hh, hnc, _, hs, hx⟩
  · omega
  · refine ⟨g, o, cap, rfl, hnc, hb, blk_lt hh, fun j hj => ?_, fun j => blk_frozen hh j⟩
    rw [blk_cell hh, ← hx, List.getElem?_take_of_lt hj, List.getElem?_drop, Array.getElem?_toList]
/-- a store into it -/
theorem RowO.set (h : RowO w base e size v n xs) {g o cap : Nat} (hv : v = .slice (some ⟨g, o, none⟩) n cap) (j : Nat) (hj : j < n * size) (u : Value) : RowO (w.setCell ⟨g, o + j, none⟩ u) base e size v n (xs.set j u) := by
  refine ⟨by rw [List.length_set]; exact h.1, ?_⟩
  rcases h.2 with ⟨h1, h0⟩ | ⟨g', o', cap', cur, h1, hb, hh, hnc, hm, hs, hx⟩
  · subst h0; simp at hj
  · rw [hv] at h1
    injection h1 with h1 h2 h3
    injection h1 with h1
    injection h1 with h1 h4
    subst h1 h3 h4
    refine .inr ⟨g, o, cap, cur.setIfInBounds (o + j) u, hv, hb, ?_, hnc, hm, by simpa using hs, ?_⟩
    · exact blk_set hh (o + j) u
    · rw [Array.toList_setIfInBounds, ← hx, List.drop_set, if_neg (by omega), Nat.add_sub_cancel_left, List.take_set]
/-- cut at its head -/
theorem RowO.cut {P : Program} (h : RowO w base e size v n xs) (t : TypeId) (kl : IntKind) {i : TypeInfo} (ht : P.underlying t = some (.slice e)) (hi : P.info? e = some i) (hsz : i.size = size) (m : Nat) (hm : m ≤ n) :
    ∃ v', (∀ W : World, (Instr.slice t v (some (.int kl (m : Int))) none none).run P W = .ok v' W) ∧ RowO w base e size v' (n - m) (xs.drop (m * size)) ∧ (v'.ownBlock = v.ownBlock) := by
  have hel : P.elem t = e := by simp [Program.elem, ht]
  rcases h.2 with ⟨rfl, rfl⟩ | ⟨g, o, cap, cur, rfl, hb, hh, hnc, hcm, hs, hx⟩
  · obtain rfl : m = 0 := by omega
    refine ⟨.slice none 0 0, fun W => ?_, ⟨by simp [h.1], .inl ⟨rfl, rfl⟩⟩, rfl⟩
    simp [Instr.slice, run_underlying ht, sizeOf, typeInfo, hel, hi, asIntOf, go_sem]
  · have hl := h.1
    by_cases hc : cap = m
    · obtain rfl : n = m := by omega
      subst hc
      refine ⟨.slice (some ⟨g, o, none⟩) 0 0, fun W => ?_, ⟨?_, .inr ⟨g, o, 0, cur, by simp, hb, hh, by omega, by omega, by omega, ?_⟩⟩, rfl⟩
      · simp [Instr.slice, run_underlying ht, sizeOf, typeInfo, hel, hi, asIntOf, go_sem]
      · rw [List.length_drop, hl]; simp
      · simp [List.drop_of_length_le (Nat.le_of_eq hl)]
    · refine ⟨.slice (some ⟨g, o + m * size, none⟩) (n - m) (cap - m), fun W => ?_, ⟨?_, .inr ⟨g, o + m * size, cap - m, cur, rfl, hb, hh, by omega, by unfold maxLen at *; omega, ?_, ?_⟩⟩, rfl⟩
      · have h1 : m ≤ cap := by omega
        have h2 : (m : Int) ≤ (n : Int) := by omega
        have h3 : (n : Int) ≤ (cap : Int) := by omega
        have h4 : ¬ (cap : Int) - (m : Int) = 0 := by omega
        have h5 : ¬ (cap - m = 0) := by omega
        have h6 : ((n : Int) - (m : Int)).toNat = n - m := by omega
        have h7 : ((cap : Int) - (m : Int)).toNat = cap - m := by omega
        simp [Instr.slice, run_underlying ht, sizeOf, typeInfo, hel, hi, asIntOf, go_sem, h1, h2, h3, h4, h5, h6, h7, hm, hnc, Addr.add, hsz]
        rw [if_neg hc]
        congr 1
        split
        · rename_i hz; rw [hz]; rfl
        · rfl
      · rw [List.length_drop, hl, Nat.sub_mul]
      · rw [Nat.sub_mul]
        have := Nat.mul_le_mul_right size (show m ≤ cap by omega)
        omega
      · rw [← hx, List.drop_take, List.drop_drop, Nat.sub_mul]
end
/-- one element, of some cells in a block of its own, behind a row of one's own -/
theorem app_rowO {P : Program} (W : World) (base : Nat) (t e ty : TypeId) (z : Value) (size bytes : Nat) (ht : P.underlying t = some (.slice e)) (hinfo : (P.info? e).map (fun i => (i.zero, i.size, i.bytes)) = some (some z, size, bytes)) (hz : z.cells.size = size) (hs0 : 0 < size) (hb0 : 0 < bytes)
    (v : Value) (n : Nat) (xs : List Value) (g1 : Nat) (cs : List Value) (hcs : cs.length = size) (h1 : ∀ u ∈ cs, u.oneCell' = true) (HO : RowO W base e size v n xs) (HB : Blk W g1 e cs) (hbase : base ≤ W.heap.size) (hl : (n + 1) * bytes ≤ 140737488355328) :
    ∃ v1 w1, (Builtin.append_ #[t, t] ty #[v, .slice (some ⟨g1, 0, none⟩) 1 1]).run P W = .ok v1 w1 ∧ RowO w1 base e size v1 (n + 1) (xs ++ cs) ∧ W.grownBy w1 v.ownBlock ∧ (v1.ownBlock = v.ownBlock ∨ ∃ k, v1.ownBlock = some k ∧ W.heap.size ≤ k) := by
  obtain ⟨i0, hi, hzz⟩ := Option.map_eq_some_iff.1 hinfo
  simp only [Prod.mk.injEq] at hzz
  obtain ⟨hz0, hz1, hz2⟩ := hzz
  subst hz1
  subst hz2
  have hlen : n + 1 ≤ 140737488355328 := Nat.le_trans (Nat.le_mul_of_pos_right _ hb0) hl
  have hnews : ∀ j u, cs[j]? = some u → W.cell? ((⟨g1, 0, none⟩ : Addr).add j) = some u := fun j u hu => by rw [add_plain, HB.at_]; simpa using hu
  have hl2 : (xs ++ cs).length = (n + 1) * i0.size := by rw [List.length_append, HO.1, hcs, Nat.add_mul, Nat.one_mul]
  rcases HO.2 with ⟨rfl, rfl⟩ | ⟨g, o, cap, cur, rfl, hbg, hg, hnc, hcm, hcs2, htake⟩
  · obtain ⟨v1, w1, hr, h2, h3, h4⟩ := app_cells (P := P) W base t e ty z i0.size i0.bytes ht hinfo hz hs0 hb0 (.slice none 0 0) 0 xs g1 cs hcs h1 ⟨HO.1, .inl ⟨rfl, rfl⟩⟩ HB hbase hl
    exact ⟨v1, w1, hr, rowO_of_own h2, h3, h4⟩
  · by_cases hroom : n + 1 ≤ cap
    · have hmul := Nat.mul_le_mul_right i0.size hroom
      have hfit : o + n * i0.size + 0 + cs.length ≤ cur.size := by rw [hcs]; rw [Nat.add_mul, Nat.one_mul] at hmul; omega
      have hf := run_firstCells_some (P := P) W i0.size 1 ⟨g1, 0, none⟩ 1 1 cs (by rw [hcs]; simp) hnews
      have hst := run_storeCells_at P g (o + n * i0.size) e cs 0 cur W hg hfit h1
      simp only [Nat.add_zero] at hst
      refine ⟨.slice (some ⟨g, o, none⟩) (n + 1) cap, W.setRow g (cur.toList.take (o + n * i0.size) ++ cs ++ cur.toList.drop (o + n * i0.size + cs.length)).toArray, ?_, ⟨hl2, .inr ⟨g, o, cap, _, rfl, hbg, setRow_heap W g cur _ e _ hg, hroom, hcm, ?_, ?_⟩⟩, ⟨rfl, rfl, rfl, by simp, fun k _ hk => setRow_other W g k _ (fun e => hk (by simp [Value.ownBlock, e]))⟩, .inl rfl⟩
      · have e9 : (⟨g, o, none⟩ : Addr).add (n * i0.size) = ⟨g, o + n * i0.size, none⟩ := by simp [Addr.add]
        simp [Builtin.append_, run_underlying ht, sizeOf, typeInfo, hi, Builtin.lenOf, hroom, hf, e9, hst]
      · simp only [List.size_toArray, List.length_append, List.length_take, List.length_drop, Array.length_toList]
        omega
      · have hh : (List.take (o + n * i0.size) cur.toList).length = o + n * i0.size := by rw [List.length_take, Array.length_toList]; omega
        rw [List.append_assoc, List.drop_append_of_le_length (by rw [hh]; omega), ← List.append_assoc, List.drop_take, Nat.add_sub_cancel_left, htake, ← hl2]
        exact List.take_left
    · have holds : ∀ j u, xs[j]? = some u → W.cell? ((⟨g, o, none⟩ : Addr).add j) = some u := fun j u hu => by
        have hj : j < n * i0.size := by
          rcases Nat.lt_or_ge j xs.length with h | h
          · rw [HO.1] at h; exact h
          · rw [List.getElem?_eq_none h] at hu; cases hu
        rw [show (⟨g, o, none⟩ : Addr).add j = ⟨g, o + j, none⟩ from by simp [Addr.add], blk_cell hg, ← hu, ← htake, List.getElem?_take_of_lt hj, List.getElem?_drop, Array.getElem?_toList]
      have hr := run_append_grow (P := P) W t ty e i0 z ht hi hz0 ⟨g, o, none⟩ n cap xs HO.1 holds ⟨g1, 0, none⟩ 1 1 cs (by rw [hcs]; simp) hnews (by omega) (by omega) (growslice_fits (by omega) hl)
      have hge := grownCap_ge W (n + 1) cap e
      have hcm2 : grownCap W (n + 1) cap e ≤ maxLen := grownCap_le_maxLen W (n + 1) cap e (by unfold maxLen; omega)
      refine ⟨_, _, hr, ⟨hl2, .inr ⟨W.heap.size, 0, _, _, rfl, hbase, heap_alloc_new W.drew _, hge, hcm2, ?_, ?_⟩⟩, ⟨rfl, rfl, rfl, by simp, fun k hk _ => Below.heap_alloc W.drew _ k hk⟩, .inr ⟨_, rfl, Nat.le_refl _⟩⟩
      · simp only [Array.size_append, List.size_toArray, size_zeroCells, hz, HO.1, hcs]
        have : (n + 1) * i0.size = n * i0.size + i0.size := by rw [Nat.add_mul, Nat.one_mul]
        have h9 : grownCap W (n + 1) cap e * i0.size = (n + 1) * i0.size + (grownCap W (n + 1) cap e - (n + 1)) * i0.size := by rw [← Nat.add_mul]; congr 1; omega
        omega
      · simp only [Array.toList_append, List.append_assoc, List.drop_zero]
        rw [← List.append_assoc, ← hl2]
        exact List.take_left
end Go.Proofs.Yteaefambkagpbaa.F

-- RegB
namespace Go.Proofs.YteaefambkagpbaaR
open Go Go.RowKit
section
variable (P : Program) (Q : Exit → Act → World → Prop) (R Rp : World → World → Prop) (V : Nat → World → Value → Prop) (a0 : Act) (w0 : World) (E : Act → World → Prop)
end

section
variable {P : Program} {ops : Array Oper} {Q : Exit → Act → World → Prop} {R Rp : World → World → Prop} {V : Nat → World → Value → Prop} {a0 : Act} {w0 : World} {E : Act → World → Prop}
end

section
variable {P : Program} {Q : Exit → Act → World → Prop} {V : Nat → World → Value → Prop} {a0 : Act} {w0 : World} {E : Act → World → Prop}
end

end Go.Proofs.YteaefambkagpbaaR

-- F38
namespace Go.Proofs.Yteaefambkagpbaa.F
open Go.RowKit Go.Proofs.YteaefambkagpbaaW.PrintWords Go.Proofs.YteaefambkagpbaaW.PrintLast Go.Proofs.YteaefambkagpbaaW.PrintMore
attribute [local go_sem] max2_int min2_int max_two min_two max_three min_three max_four min_four   -- for this text's walks alone
set_option linter.unusedVariables false
set_option linter.unusedSimpArgs false

/-! ### link_cut: function 38 -/
def link_cut.l0 : Nat → ByteArray → List (S30) → Option ((List (S30)))
  | 0, _, _ => none
  | k + 1, x0, x3 => if (x0.size : Int) > 200 then (if 0 ≤ 200 then (if 200 ≤ (x0.size : Int) then (if x3.length < 2932031007402 then (link_cut.l0 k (x0.extract 200 x0.size) (x3 ++ [(⟨false, 0, false, x0.extract 0 200, 0⟩ : S30)])) else (none)) else (none)) else (none)) else (if x3.length < 2932031007402 then (some (x3 ++ [(⟨false, 0, true, x0, 0⟩ : S30)])) else (none))
def link_cut.f (k : Nat) (a0 : ByteArray) : Option ((List (S30))) := link_cut.l0 k a0 ([] : List (S30))
set_option maxHeartbeats 8000000 in
set_option maxRecDepth 100000 in
theorem link_cut.calls (k : Nat) (a0 : ByteArray) (r : List (S30)) (w : World) (h : link_cut.f k a0 = some r) :
    Calls Try.prog 38 #[.string a0] w fun e w' => ∃ v0_ : Value, e = .returned (v0_) ∧ Kd.R k30 30 w' w.heap.size (fun _ => True) v0_ r ∧ Below w.heap.size w w' := by
  have hu30 := Try.underlying30
  have HB := Aside0.mk (Below.refl w.heap.size w)
  have H : (link_cut.l0 k a0 ([] : List (S30))) = some r := h
  clear h
  have H' := Aside0.mk H
  clear H
  go_enter Try.func38, Try.ntmps38
  go_wp2
  go_loopg [0, 3] k (fun kq v0 v3 w' => ∃ (x0_1 : ByteArray) (x3_1 : List (S30)), v0 = .string x0_1 ∧ Aside0 (link_cut.l0 kq x0_1 x3_1 = some r) ∧ Aside0 (kq ≤ k) ∧ Aside0 (Kd.R k30 30 w' w.heap.size (fun _ => True) v3 x3_1) ∧ Aside0 (Below w.heap.size w w'))
  case atStart => exact ⟨(a0), (([] : List (S30))), (by first | rfl | (simp; done) | (simp [*]; done)), H', ⟨Nat.le_refl _⟩, ⟨by first | exact Kd.R_nil _ _ _ _ _ | exact Kd.N_nil _ _ _ _ _ | exact Kd.V_nil _ _ _ _ _ | exact Kd.Q_nil _ _ _ _ _ | exact Kd.S_nil _ _ _ _ _⟩, ⟨by repeat (first | (with_reducible first | exact HB.out | apply below_alloc | apply pw_below_drewN | apply below_drew1) | exact HB.out)⟩⟩
  case round =>
    clear H'
    obtain ⟨x0_1, x3_1, rfl, HA, HK1, HO_3, HB⟩ := hrel
    cases gk with
    | zero => exact absurd HA.out (by simp [link_cut.l0])
    | succ k1 =>
      have H := HA.out
      clear HA
      simp only [link_cut.l0] at H
      by_cases c2 : (x0_1.size : Int) > 200
      · rw [if_pos c2] at H
        have c2b0 : decide (200 < (x0_1.size : Int)) = true := decide_eq_true c2
        have c2b1 : decide (200 < x0_1.size) = true := decide_eq_true (by omega)
        clear c2
        by_cases c3 : 0 ≤ 200
        · rw [if_pos c3] at H
          have c3b0 := eq_true c3
          have c3b1 : decide (0 ≤ 200) = true := decide_eq_true c3
          clear c3
          by_cases c4 : 200 ≤ (x0_1.size : Int)
          · rw [if_pos c4] at H
            have c4b0 := eq_true c4
            have c4b1 : decide (200 ≤ (x0_1.size : Int)) = true := decide_eq_true c4
            clear c4
            by_cases c5 : x3_1.length < 2932031007402
            · rw [if_pos c5] at H
              have LMc5 := Aside0.mk c5
              clear c5
              obtain ⟨y102, hy102⟩ : ∃ y_ : List (S30), y_ = (x3_1 ++ [(⟨false, 0, false, x0_1.extract 0 200, 0⟩ : S30)]) := ⟨_, rfl⟩
              replace H : (link_cut.l0 k1 (x0_1.extract 200 x0_1.size) y102) = some r := by first | (rw [hy102]; with_reducible exact H) | (have H2_ := (Option.bind_some _ _).symm.trans H; rw [hy102]; with_reducible exact H2_) | (have H2_ := (Option.bind_some _ _).symm.trans H; with_reducible exact H2_) | with_reducible exact H | (rw [hy102]; exact H) | exact H
              have Ny102 := Aside0.mk hy102
              clear hy102
              have c6b0 := eq_true (of_decide_eq_true (by first | (with_reducible assumption) | assumption) : 200 ≤ (x0_1.size : Int))
              have H' := Aside0.mk H
              clear H
              go_wp2_with (first | ((with_reducible refine gate_builtin (b := .append) (xs := #[.tmp 7, .tmp 11]) rfl ?_); at_builtin; refine Kd.R_append k30 (w0 := w) w.heap.size rfl (.tmp 7) (.tmp 11) 53 30 (.agg #[(.bool false), (.int .i64 0), (.bool false), (.string ⟨#[]⟩), (.int .i64 0)]) 48 rfl Try.underlying53 info30 rfl (by decide) (by omega) u3 x3_1 (⟨false, 0, false, x0_1.extract 0 200, 0⟩ : S30) [.bool false, .int .i64 0, .bool false, .string (x0_1.extract 0 200), .int .i64 0] (fun _ => True) (fun _ => False) rfl rfl ?aP (fun _ hk => hk.elim) ?aF ?aO ?aB ?aS ?aL ?_; (case aP => exact k30_mkM _ _ _ (⟨false, 0, false, x0_1.extract 0 200, 0⟩ : S30)); (case aB => exact (by repeat (first | (with_reducible first | exact HB.out | apply below_alloc | apply pw_below_drewN | apply below_drew1) | exact HB.out))); (case aF => exact (fun _ _ => trivial)); (case aO => exact (by (with_reducible repeat (first | apply Kd.R_alloc | apply Kd.R_drewN | apply Kd.R_drew)); exact HO_3.out)); (case aS => exact (below_size (by repeat (first | (with_reducible first | exact HB.out | apply below_alloc | apply pw_below_drewN | apply below_drew1) | exact HB.out)))); (case aL => have := LMc5.out; omega); intro v103 w7 ho hb hg hat; rw [← Ny102.out] at ho; have n0_ := Aside0.mk (hb); have n1_ := Aside0.mk (ho); clear HB; clear HO_3; have HB := n0_; have HO104 := n1_; clear n0_ n1_; clear ho hb hg hat))
              go_roundg k1
              case measure => have := HK1.out; omega
              case rel => exact ⟨(x0_1.extract 200 x0_1.size), (y102), (by first | rfl | (simp; done) | (simp [*]; done)), H', ⟨by have := HK1.out; omega⟩, ⟨by (with_reducible repeat (first | apply Kd.R_alloc | apply Kd.R_drewN | apply Kd.R_drew)); exact HO104.out⟩, ⟨by repeat (first | (with_reducible first | exact HB.out | apply below_alloc | apply pw_below_drewN | apply below_drew1) | exact HB.out)⟩⟩
            · rw [if_neg c5] at H
              exact absurd H (by simp)
          · rw [if_neg c4] at H
            exact absurd H (by simp)
        · rw [if_neg c3] at H
          exact absurd H (by simp)
      · rw [if_neg c2] at H
        have c2b0 : decide (200 < (x0_1.size : Int)) = false := decide_eq_false c2
        have c2b1 : decide (200 < x0_1.size) = false := decide_eq_false (by omega)
        clear c2
        by_cases c8 : x3_1.length < 2932031007402
        · rw [if_pos c8] at H
          have LMc8 := Aside0.mk c8
          clear c8
          obtain ⟨y105, hy105⟩ : ∃ y_ : List (S30), y_ = (x3_1 ++ [(⟨false, 0, true, x0_1, 0⟩ : S30)]) := ⟨_, rfl⟩
          replace H : (some y105) = some r := by first | (rw [hy105]; with_reducible exact H) | (have H2_ := (Option.bind_some _ _).symm.trans H; rw [hy105]; with_reducible exact H2_) | (have H2_ := (Option.bind_some _ _).symm.trans H; with_reducible exact H2_) | with_reducible exact H | (rw [hy105]; exact H) | exact H
          have Ny105 := Aside0.mk hy105
          clear hy105
          obtain rfl := Option.some.inj H
          go_wp2_with (first | ((with_reducible refine gate_builtin (b := .append) (xs := #[.tmp 15, .tmp 18]) rfl ?_); at_builtin; refine Kd.R_append k30 (w0 := w) w.heap.size rfl (.tmp 15) (.tmp 18) 53 30 (.agg #[(.bool false), (.int .i64 0), (.bool false), (.string ⟨#[]⟩), (.int .i64 0)]) 48 rfl Try.underlying53 info30 rfl (by decide) (by omega) u3 x3_1 (⟨false, 0, true, x0_1, 0⟩ : S30) [.bool false, .int .i64 0, .bool true, .string x0_1, .int .i64 0] (fun _ => True) (fun _ => False) rfl rfl ?aP (fun _ hk => hk.elim) ?aF ?aO ?aB ?aS ?aL ?_; (case aP => exact k30_mkM _ _ _ (⟨false, 0, true, x0_1, 0⟩ : S30)); (case aB => exact (by repeat (first | (with_reducible first | exact HB.out | apply below_alloc | apply pw_below_drewN | apply below_drew1) | exact HB.out))); (case aF => exact (fun _ _ => trivial)); (case aO => exact (by (with_reducible repeat (first | apply Kd.R_alloc | apply Kd.R_drewN | apply Kd.R_drew)); exact HO_3.out)); (case aS => exact (below_size (by repeat (first | (with_reducible first | exact HB.out | apply below_alloc | apply pw_below_drewN | apply below_drew1) | exact HB.out)))); (case aL => have := LMc8.out; omega); intro v106 w9 ho hb hg hat; rw [← Ny105.out] at ho; have n0_ := Aside0.mk (hb); have n1_ := Aside0.mk (ho); clear HB; clear HO_3; have HB := n0_; have HO107 := n1_; clear n0_ n1_; clear ho hb hg hat))
          go_ret
          exact ⟨_, by first | rfl | (simp [errW_none, errW_some] <;> rfl) | (simp [*, errW_none, errW_some] <;> rfl), by (with_reducible repeat (first | apply Kd.R_alloc | apply Kd.R_drewN | apply Kd.R_drew)); exact HO107.out, by repeat (first | (with_reducible first | exact HB.out | apply below_alloc | apply pw_below_drewN | apply below_drew1) | exact HB.out)⟩
        · rw [if_neg c8] at H
          exact absurd H (by simp)

-- NOT PRINTED: function 22 (link_Sender_Put)

-- NOT PRINTED: function 24 (link_Sender_Due)

-- NOT PRINTED: function 25 (link_Sender_Wait)

-- NOT PRINTED: function 7 (strongroomlaw26_lives)

end Go.Proofs.Yteaefambkagpbaa.F

-- LnkS
namespace Go.Proofs.Yteaefambkagpbaa.F
open Go Go.RowKit Go.Proofs.YteaefambkagpbaaW.PrintWords Go.Proofs.YteaefambkagpbaaW.PrintLast Go.Proofs.YteaefambkagpbaaW.PrintMore Go.Proofs.YteaefambkagpbaaM Go.Proofs.YteaefambkagpbaaR
attribute [local go_sem] max2_int min2_int max_two min_two
set_option linter.unusedSimpArgs false
set_option linter.unusedVariables false
set_option maxRecDepth 100000
/-- the cells of parts on their way -/
def sdc1 (x : S86) : List Value := [.bool x.f0.f0, .int .i64 x.f0.f1, .bool x.f0.f2, .string x.f0.f3, .int .i64 x.f0.f4, .bool x.f1, .int .i64 x.f2, .bool x.f3]
def sdc (l : List S86) : List Value := l.flatMap sdc1
theorem sdc_snoc (l : List S86) (x : S86) : sdc (l ++ [x]) = sdc l ++ sdc1 x := by simp [sdc]
theorem sdc_at (l : List S86) : ∀ (i : Nat) (x : S86), l[i]? = some x → ∀ j, j < 8 → (sdc l)[i * 8 + j]? = (sdc1 x)[j]? := by
  induction l with
  | nil => intro i x h; simp at h
  | cons y l ih =>
    intro i x h j hj
    have e : sdc (y :: l) = sdc1 y ++ sdc l := by simp [sdc]
    rw [e]
    cases i with
    | zero =>
      obtain rfl : y = x := by simpa using h
      rw [Nat.zero_mul, Nat.zero_add, List.getElem?_append_left (by simp [sdc1]; omega)]
    | succ i =>
      rw [List.getElem?_append_right (by simp [sdc1]; omega)]
      have := ih i x (by simpa using h) j hj
      rw [← this]
      congr 1
      simp [sdc1]; omega
theorem sdc_drop (l : List S86) : ∀ m, (sdc l).drop (m * 8) = sdc (l.drop m) := by
  induction l with
  | nil => intro m; simp [sdc]
  | cons y l ih =>
    intro m
    have e : sdc (y :: l) = sdc1 y ++ sdc l := by simp [sdc]
    cases m with
    | zero => simp
    | succ m =>
      rw [e, show (m + 1) * 8 = 8 + m * 8 from by omega, ← List.drop_drop, show List.drop 8 (sdc1 y ++ sdc l) = sdc l from rfl, ih m]
      rfl
/-- the sender in memory -/
structure SndM (B g : Nat) (v : Value) (l : List S86) (first now : Int) (w : World) : Prop where
  cells : Blk w g 77 [v, .int .i64 first, .int .i64 now]
  row : RowO w B 86 8 v l.length (sdc l)
  hg : B ≤ g
/-- its blocks -/
def sndS (g : Nat) (v : Value) : Nat → Prop := fun k => k = g ∨ v.ownBlock = some k
theorem SndM.ne {B g : Nat} {v : Value} {l : List S86} {f n : Int} {w : World} (h : SndM B g v l f n w) : v.ownBlock ≠ some g := h.row.ne h.cells (by decide)
theorem SndM.far {B g : Nat} {v : Value} {l : List S86} {f n : Int} {w w' : World} {S : Nat → Prop} (h : SndM B g v l f n w) (hu : Upd S w w') (hn : ∀ k, sndS g v k → ¬ S k) : SndM B g v l f n w' :=
  ⟨h.cells.upd hu (hn g (.inl rfl)), h.row.upd hu fun k hk => hn k (.inr hk), h.hg⟩
theorem SndM.grew {B g : Nat} {v : Value} {l : List S86} {f n : Int} {w w' : World} (h : SndM B g v l f n w) (hu : Grew w w') : SndM B g v l f n w' :=
  ⟨h.cells.grew hu, h.row.grew hu, h.hg⟩
/-- a sender that was made by the call -/
def SndV (B : Nat) (l : List S86) (f n : Int) : World → Value → Prop := fun w v => ∃ g r, v = .pointer (some ⟨g, 0, none⟩) ∧ SndM B g r l f n w
theorem snew_c (w : World) : Calls Try.prog 17 #[] w (Tells w (SndV w.heap.size [] 0 0)) := by
  go_enter Try.func17, Try.ntmps17
  go_wp2_with fail
  go_ret
  exact ⟨_, rfl, ⟨_, _, rfl, ⟨Blk.new w 77 [.slice none 0 0, .int .i64 0, .int .i64 0], rowO_nil _ _ _ _, Nat.le_refl _⟩⟩, Grew.alloc _ _⟩
theorem wait_c (w : World) (B g : Nat) (v : Value) (l : List S86) (f n : Int) (h : SndM B g v l f n w) :
    Calls Try.prog 25 #[.pointer (some ⟨g, 0, none⟩)] w (Tells w (Is (.int .i64 (l.length : Int)))) := by
  obtain ⟨A, c, rfl, hc⟩ := h.row.slice
  have k0 := h.cells.at_ 0
  simp only [List.getElem?_cons_zero] at k0
  clear h
  obtain ⟨m, hm⟩ : ∃ m, m = l.length := ⟨_, rfl⟩
  rw [← hm] at k0 ⊢
  clear hm hc
  go_enter Try.func25, Try.ntmps25
  go_wp2_with fail
  go_ret
  exact ⟨_, rfl, rfl, Grew.refl w⟩
theorem done_c (w : World) (B g : Nat) (v : Value) (l : List S86) (f n : Int) (h : SndM B g v l f n w) :
    Calls Try.prog 20 #[.pointer (some ⟨g, 0, none⟩)] w (Tells w (Is (.bool (decide (l.length = 0))))) := by
  obtain ⟨A, c, rfl, hc⟩ := h.row.slice
  have k0 := h.cells.at_ 0
  simp only [List.getElem?_cons_zero] at k0
  clear h
  obtain ⟨m, hm⟩ : ∃ m, m = l.length := ⟨_, rfl⟩
  rw [← hm] at k0 ⊢
  clear hm hc
  obtain ⟨b, hb⟩ : ∃ b, decide (m = 0) = b := ⟨_, rfl⟩
  have hb2 : ((m : Int) == 0) = b := by rw [← hb, Bool.eq_iff_iff]; simp
  rw [hb]
  have HB := Lib.hid hb
  clear hb
  go_enter Try.func20, Try.ntmps20
  go_wp2_with fail
  go_ret
  exact ⟨_, rfl, rfl, Grew.refl w⟩
/-- a message's parts -/
def cutN : Nat → ByteArray → List S30
  | 0, m => [⟨false, 0, true, m, 0⟩]
  | k + 1, m => if 200 < m.size then ⟨false, 0, false, m.extract 0 200, 0⟩ :: cutN k (m.extract 200 m.size) else [⟨false, 0, true, m, 0⟩]
def cutP (m : ByteArray) : List S30 := cutN m.size m
theorem cut_l0 : ∀ (k : Nat) (m : ByteArray) (acc : List S30), m.size ≤ 200 * k + 200 → k + acc.length ≤ 1000000 → link_cut.l0 (k + 1) m acc = some (acc ++ cutN k m) := by
  intro k
  induction k with
  | zero =>
    intro m acc hm ha
    simp only [link_cut.l0, cutN]
    rw [if_neg (by omega), if_pos (by omega)]
  | succ k ih =>
    intro m acc hm ha
    simp only [cutN]
    by_cases h : 200 < m.size
    · rw [if_pos h, link_cut.l0, if_pos (by omega), if_pos (by omega), if_pos (by omega), if_pos (by omega)]
      rw [ih _ _ (by rw [ByteArray.size_extract]; omega) (by simp; omega)]
      simp
    · rw [if_neg h, link_cut.l0, if_neg (by omega), if_pos (by omega)]
theorem cut_f (m : ByteArray) (h : m.size ≤ 100000) : link_cut.f (m.size + 1) m = some (cutP m) := by
  unfold link_cut.f cutP
  rw [cut_l0 m.size m [] (by omega) (by simp; omega)]
  simp
theorem cut_c (m : ByteArray) (h : m.size ≤ 100000) (w : World) : Calls Try.prog 38 #[.string m] w (Tells w (fun w' v => ∃ A c, v = .slice A (cutP m).length c ∧ (cutP m).length ≤ c ∧ Kd.C k30 w' A (cutP m).length (cutP m))) :=
  (link_cut.calls _ m _ w (cut_f m h)).mono fun e w' ⟨v, he, hR, hb⟩ => ⟨v, he, Kd.R_reads hR, hb⟩
end Go.Proofs.Yteaefambkagpbaa.F

-- LnkP
namespace Go.Proofs.Yteaefambkagpbaa.F
open Go Go.RowKit Go.Proofs.YteaefambkagpbaaW.PrintWords Go.Proofs.YteaefambkagpbaaW.PrintLast Go.Proofs.YteaefambkagpbaaW.PrintMore Go.Proofs.YteaefambkagpbaaM Go.Proofs.YteaefambkagpbaaR
attribute [local go_sem] max2_int min2_int max_two min_two
set_option linter.unusedSimpArgs false
set_option linter.unusedVariables false
set_option maxRecDepth 100000
/-- parts, numbered from n on, not sent yet -/
def fresh (n : Int) : List S30 → List S86
  | [] => []
  | p :: c => ⟨⟨p.f0, n, p.f2, p.f3, p.f4⟩, false, 0, false⟩ :: fresh (n + 1) c
theorem fresh_len (n : Int) (c : List S30) : (fresh n c).length = c.length := by
  induction c generalizing n with
  | nil => rfl
  | cons p c ih => simp [fresh, ih]
theorem fresh_snoc (n : Int) (c : List S30) (p : S30) : fresh n (c ++ [p]) = fresh n c ++ [⟨⟨p.f0, n + c.length, p.f2, p.f3, p.f4⟩, false, 0, false⟩] := by
  induction c generalizing n with
  | nil => simp [fresh]
  | cons q c ih => simp only [List.cons_append, fresh, ih, List.length_cons]; rw [show n + ((c.length + 1 : Nat) : Int) = n + 1 + (c.length : Int) from by omega]
/-- what Put does: its answer, and the sender's object behind it -/
def PutD (B g : Nat) (v : Value) (l : List S86) (f n : Int) (r : Int) (l' : List S86) (w : World) (e : Ending) (w' : World) : Prop :=
  ∃ v', e = .returned (.int .i64 r) ∧ SndM B g v' l' f n w' ∧ Upd (sndS g v) w w' ∧ (v'.ownBlock = v.ownBlock ∨ ∃ k, v'.ownBlock = some k ∧ w.heap.size ≤ k)
set_option maxHeartbeats 4000000 in
theorem put_full_c (w : World) (B g : Nat) (v : Value) (l : List S86) (f n : Int) (hS : SndM B g v l f n w) (m : ByteArray) (h : m.size ≤ 4096) (hl : l.length ≤ 100000) (hfull : 64 < l.length + (cutP m).length) (hcl : (cutP m).length ≤ 100000) :
    Calls Try.prog 22 #[.pointer (some ⟨g, 0, none⟩), .string m] w (Tells w (Is (.int .i64 5))) := by
  have H1 := Lib.hid (cut_c m (by omega) w)
  obtain ⟨A, cc, rfl, hc⟩ := hS.row.slice
  have HC := Lib.hid (fun wx (hG : Grew w wx) => (show wx.cell? ⟨g, 0, none⟩ = some (.slice A l.length cc) from by rw [(hS.cells.grew hG).at_]; rfl))
  obtain ⟨k, hk⟩ : ∃ k, k = l.length := ⟨_, rfl⟩
  obtain ⟨q, hq⟩ : ∃ q, q = (cutP m).length := ⟨_, rfl⟩
  rw [← hk] at HC hc hl hfull
  rw [← hq] at H1 hfull hcl
  obtain ⟨ms, hms⟩ : ∃ ms, m.size = ms := ⟨_, rfl⟩
  have d1 : decide (4096 < (ms : Int)) = false := decide_eq_false (by omega)
  have d2 : decide (4096 < ms) = false := decide_eq_false (by omega)
  have d3 : decide (64 < (k : Int) + (q : Int)) = true := decide_eq_true (by omega)
  have hw : IntKind.i64.wrap ((k : Int) + (q : Int)) = (k : Int) + (q : Int) := IntWalk.i64_in _ (by omega)
  clear hS hk hq h hfull
  go_enter Try.func22, Try.ntmps22
  go_wp2_with fail
  refine H1.out.mono ?_
  rintro e w1 ⟨_, rfl, ⟨A5, c5, rfl, hc5, hC5⟩, hg1⟩
  clear hC5
  go_wp2_with fail
  apply region_grew [Is _, Is _, Is _, Is _, Is _, Is _, Is _, Is _, Is _, Is _, Is undef, Is undef, Is undef, Is undef, Is undef, Is undef, Is undef, Is undef, Is undef, Is undef, Is undef, Is undef] [([(0, none)], none), ([(15, some 0)], none), ([(16, some 1)], none), ([(17, some 2)], none), ([(18, some 3)], none), ([(5, none)], none), ([(20, some 5)], none), ([(19, some 4), (21, some 6)], none), ([(22, some 7)], none), ([(23, some 8)], none), ([(0, none), (24, some 9)], some (24, false)), ([(25, some 10), (24, some 9)], some (24, false)), ([(26, some 11), (24, some 9)], some (24, false)), ([(27, some 12), (24, some 9)], some (24, false)), ([(0, none), (24, some 9)], some (24, false)), ([(29, some 14), (24, some 9)], some (24, false)), ([(30, some 15), (24, some 9)], some (24, false)), ([(31, some 16), (24, some 9)], some (24, false)), ([(32, some 17), (24, some 9)], some (24, false)), ([(28, some 13), (33, some 18), (24, some 9)], some (24, false)), ([(5, none), (24, some 9)], some (24, false)), ([(35, some 20), (24, some 9)], some (24, false))] [(15, 0), (16, 1), (17, 2), (18, 3), (19, 4), (20, 5), (21, 6), (22, 7), (23, 8), (24, 9), (25, 10), (26, 11), (27, 12), (28, 13), (29, 14), (30, 15), (31, 16), (32, 17), (33, 18), (34, 19), (35, 20), (36, 21)] rfl (by kernel_rfl) (by kernel_rfl) (show Stable Grew _ from ⟨Is.stable _, Is.stable _, Is.stable _, Is.stable _, Is.stable _, Is.stable _, Is.stable _, Is.stable _, Is.stable _, Is.stable _, Is.stable _, Is.stable _, Is.stable _, Is.stable _, Is.stable _, Is.stable _, Is.stable _, Is.stable _, Is.stable _, Is.stable _, Is.stable _, Is.stable _, trivial⟩)
  · show OpsHold _ _ _ _ _ _ _ _ _
    refine ⟨fun a_ wx hR hD K hK => ?_, ?_⟩
    · have hG : Grew w1 wx := (Grew.drew _).trans hR
      simp [Deps, Dep, at_, Is] at hD
      go_simp
      exact hK _ _ (Grew.refl _) rfl
    refine ⟨fun a_ wx hR hD K hK => ?_, ?_⟩
    · have hG : Grew w1 wx := (Grew.drew _).trans hR
      simp [Deps, Dep, at_, Is] at hD
      go_simp
      exact hK _ _ (Grew.refl _) rfl
    refine ⟨fun a_ wx hR hD K hK => ?_, ?_⟩
    · have hG : Grew w1 wx := (Grew.drew _).trans hR
      simp [Deps, Dep, at_, Is] at hD
      go_simp
      exact hK _ _ (Grew.refl _) rfl
    refine ⟨fun a_ wx hR hD K hK => ?_, ?_⟩
    · have hG : Grew w1 wx := (Grew.drew _).trans hR
      simp [Deps, Dep, at_, Is] at hD
      have e_ := HC.out wx (Grew.trans hg1 hG)
      go_simp
      exact hK _ _ (Grew.refl _) rfl
    refine ⟨fun a_ wx hR hD K hK => ?_, ?_⟩
    · have hG : Grew w1 wx := (Grew.drew _).trans hR
      simp [Deps, Dep, at_, Is] at hD
      go_simp
      exact hK _ _ (Grew.refl _) rfl
    refine ⟨fun a_ wx hR hD K hK => ?_, ?_⟩
    · have hG : Grew w1 wx := (Grew.drew _).trans hR
      simp [Deps, Dep, at_, Is] at hD
      go_simp
      exact hK _ _ (Grew.refl _) rfl
    refine ⟨fun a_ wx hR hD K hK => ?_, ?_⟩
    · have hG : Grew w1 wx := (Grew.drew _).trans hR
      simp [Deps, Dep, at_, Is] at hD
      go_simp
      exact hK _ _ (Grew.refl _) rfl
    refine ⟨fun a_ wx hR hD K hK => ?_, ?_⟩
    · have hG : Grew w1 wx := (Grew.drew _).trans hR
      simp [Deps, Dep, at_, Is] at hD
      obtain ⟨hd0, hd1⟩ := hD
      go_simp
      exact hK _ _ (Grew.refl _) rfl
    refine ⟨fun a_ wx hR hD K hK => ?_, ?_⟩
    · have hG : Grew w1 wx := (Grew.drew _).trans hR
      simp [Deps, Dep, at_, Is] at hD
      go_simp
      exact hK _ _ (Grew.refl _) rfl
    refine ⟨fun a_ wx hR hD K hK => ?_, ?_⟩
    · have hG : Grew w1 wx := (Grew.drew _).trans hR
      simp [Deps, Dep, at_, Is] at hD
      go_simp
      exact hK _ _ (Grew.refl _) rfl
    refine ⟨fun a_ wx hR hD => ⟨fun hgd K hK => ?_, fun hgd => ?_⟩, ?_⟩
    · have hG : Grew w1 wx := (Grew.drew _).trans hR
      exfalso
      simp [Deps, Dep, at_, Is] at hD
      first | (simp_all; done) | (simp_all [undef]; done)
    · exact rfl
    refine ⟨fun a_ wx hR hD => ⟨fun hgd K hK => ?_, fun hgd => ?_⟩, ?_⟩
    · have hG : Grew w1 wx := (Grew.drew _).trans hR
      exfalso
      simp [Deps, Dep, at_, Is] at hD
      first | (simp_all; done) | (simp_all [undef]; done)
    · exact rfl
    refine ⟨fun a_ wx hR hD => ⟨fun hgd K hK => ?_, fun hgd => ?_⟩, ?_⟩
    · have hG : Grew w1 wx := (Grew.drew _).trans hR
      exfalso
      simp [Deps, Dep, at_, Is] at hD
      first | (simp_all; done) | (simp_all [undef]; done)
    · exact rfl
    refine ⟨fun a_ wx hR hD => ⟨fun hgd K hK => ?_, fun hgd => ?_⟩, ?_⟩
    · have hG : Grew w1 wx := (Grew.drew _).trans hR
      exfalso
      simp [Deps, Dep, at_, Is] at hD
      first | (simp_all; done) | (simp_all [undef]; done)
    · exact rfl
    refine ⟨fun a_ wx hR hD => ⟨fun hgd K hK => ?_, fun hgd => ?_⟩, ?_⟩
    · have hG : Grew w1 wx := (Grew.drew _).trans hR
      exfalso
      simp [Deps, Dep, at_, Is] at hD
      first | (simp_all; done) | (simp_all [undef]; done)
    · exact rfl
    refine ⟨fun a_ wx hR hD => ⟨fun hgd K hK => ?_, fun hgd => ?_⟩, ?_⟩
    · have hG : Grew w1 wx := (Grew.drew _).trans hR
      exfalso
      simp [Deps, Dep, at_, Is] at hD
      first | (simp_all; done) | (simp_all [undef]; done)
    · exact rfl
    refine ⟨fun a_ wx hR hD => ⟨fun hgd K hK => ?_, fun hgd => ?_⟩, ?_⟩
    · have hG : Grew w1 wx := (Grew.drew _).trans hR
      exfalso
      simp [Deps, Dep, at_, Is] at hD
      first | (simp_all; done) | (simp_all [undef]; done)
    · exact rfl
    refine ⟨fun a_ wx hR hD => ⟨fun hgd K hK => ?_, fun hgd => ?_⟩, ?_⟩
    · have hG : Grew w1 wx := (Grew.drew _).trans hR
      exfalso
      simp [Deps, Dep, at_, Is] at hD
      first | (simp_all; done) | (simp_all [undef]; done)
    · exact rfl
    refine ⟨fun a_ wx hR hD => ⟨fun hgd K hK => ?_, fun hgd => ?_⟩, ?_⟩
    · have hG : Grew w1 wx := (Grew.drew _).trans hR
      exfalso
      simp [Deps, Dep, at_, Is] at hD
      first | (simp_all; done) | (simp_all [undef]; done)
    · exact rfl
    refine ⟨fun a_ wx hR hD => ⟨fun hgd K hK => ?_, fun hgd => ?_⟩, ?_⟩
    · have hG : Grew w1 wx := (Grew.drew _).trans hR
      exfalso
      simp [Deps, Dep, at_, Is] at hD
      first | (simp_all; done) | (simp_all [undef]; done)
    · exact rfl
    refine ⟨fun a_ wx hR hD => ⟨fun hgd K hK => ?_, fun hgd => ?_⟩, ?_⟩
    · have hG : Grew w1 wx := (Grew.drew _).trans hR
      exfalso
      simp [Deps, Dep, at_, Is] at hD
      first | (simp_all; done) | (simp_all [undef]; done)
    · exact rfl
    refine ⟨fun a_ wx hR hD => ⟨fun hgd K hK => ?_, fun hgd => ?_⟩, ?_⟩
    · have hG : Grew w1 wx := (Grew.drew _).trans hR
      exfalso
      simp [Deps, Dep, at_, Is] at hD
      first | (simp_all; done) | (simp_all [undef]; done)
    · exact rfl
    trivial
  · show EndHold _ _ _ _ _ _ _
    refine end_all (xs := [_, _, _, _, _, _, _, _, _, _, _, _, _, _, _, _, _, _, _, _, _, _]) ⟨rfl, rfl, rfl, rfl, rfl, rfl, rfl, rfl, rfl, rfl, rfl, rfl, rfl, rfl, rfl, rfl, rfl, rfl, rfl, rfl, rfl, rfl, trivial⟩ ?_
    rintro w2 hR1 -
    refine ⟨?_⟩
    have hG_w2 : Grew w1 w2 := (Grew.drew _).trans hR1
    clear hR1
    simp only [Act.put, List.setIfInBounds_toArray, List.set_cons_succ, List.set_cons_zero, dropN, putEach]
    go_wp2_with fail
    go_ret
    exact ⟨_, rfl, rfl, Grew.trans hg1 hG_w2⟩
theorem R_upd_typed {α : Type} {d : Kd α} {e base : Nat} {w w' : World} {v : Value} {xs : List α} {S : Nat → Prop} (hE : d.E = []) (h : d.R e w base (fun _ => True) v xs) (hu : Upd S w w') (hS : ∀ k cells, w.heap[k]? = some (.cells cells e (0, 0)) → ¬ S k) : d.R e w' base (fun _ => True) v xs :=
  Kd.R_mono (Kd.R_step (Kd.R_bound h) (fun k hk hlt => hu.block k hlt (by
    obtain ⟨_, _, _, q, hq, cells, hc⟩ := hk
    rw [hE] at hq
    obtain rfl : q = e := by simpa using hq
    exact hS k cells hc))) (fun _ _ => trivial)
/-- the row behind an append -/
def AppO (base : Nat) (e : TypeId) (size : Nat) (cs : List Value) (n : Nat) (vb : Value) (N : Nat) : World → Value → Prop := fun w v => RowO w base e size v n cs ∧ (v.ownBlock = vb.ownBlock ∨ ∃ k, v.ownBlock = some k ∧ N ≤ k)
theorem SndM.app {B g : Nat} {v v1 : Value} {l : List S86} {f n : Int} {w w' : World} {x : S86} (h : SndM B g v l f n w) (hu : Upd (fun k => v.ownBlock = some k) w w')
    (hrow : RowO w' B 86 8 v1 (l.length + 1) (sdc l ++ sdc1 x)) : SndM B g v1 (l ++ [x]) f n (w'.setCell ⟨g, 0, none⟩ v1) := by
  have hc := h.cells.upd hu h.ne
  have hne := hrow.ne hc (by decide)
  have hset : Upd (fun k => k = g) w' (w'.setCell ⟨g, 0, none⟩ v1) := Upd.set (S := fun k => k = g) (p := ⟨g, 0, none⟩) (Upd.refl _ _) (.inl rfl) _
  refine ⟨?_, ?_, h.hg⟩
  · have := hc.set 0 v1
    simpa using this
  · rw [List.length_append, sdc_snoc]
    exact hrow.upd hset fun k hk e => hne (by rw [hk, e])
theorem SndM.typed {B g : Nat} {v : Value} {l : List S86} {f n : Int} {w : World} (h : SndM B g v l f n w) : ∀ k cells, w.heap[k]? = some (.cells cells 30 (0, 0)) → ¬ sndS g v k := by
  intro k cells hk hs
  have hb : Blk w k 30 cells.toList := by unfold Blk; rw [Array.toArray_toList]; exact hk
  rcases hs with rfl | hs
  · have hc := h.cells
    unfold Blk at hc
    rw [hk] at hc
    injection hc with hc
    injection hc with h1 h2 h3
    exact absurd h2 (by decide)
  · exact h.row.ne hb (by decide) hs
theorem infoSd : (Try.prog.info? 86).map (fun i => (i.zero, i.size, i.bytes)) = some (some (.agg #[.bool false, .int .i64 0, .bool false, .string ⟨#[]⟩, .int .i64 0, .bool false, .int .i64 0, .bool false]), 8, 72) := by kernel_rfl
theorem sdc1_one (x : S86) : ∀ u ∈ sdc1 x, u.oneCell' = true := by
  intro u hu
  simp [sdc1] at hu
  rcases hu with rfl | rfl | rfl | rfl | rfl | rfl | rfl | rfl <;> rfl
def pkc (p : S30) : List Value := [.bool p.f0, .int .i64 p.f1, .bool p.f2, .string p.f3, .int .i64 p.f4]
set_option maxHeartbeats 8000000 in
theorem sput_c (w : World) (B g : Nat) (v : Value) (l : List S86) (f n : Int) (hS : SndM B g v l f n w) (m : ByteArray) (h : m.size ≤ 4096) (hfit : l.length + (cutP m).length ≤ 64) (hf0 : 0 ≤ f) (hf1 : f ≤ 1000000) (hB : B ≤ w.heap.size) :
    Calls Try.prog 22 #[.pointer (some ⟨g, 0, none⟩), .string m] w (PutD B g v l f n 0 (l ++ fresh (f + (l.length : Int)) (cutP m)) w) := by
  have H1 := Lib.hid (link_cut.calls _ m _ w (cut_f m (by omega)))
  obtain ⟨C, hC⟩ : ∃ C, C = cutP m := ⟨_, rfl⟩
  rw [← hC] at H1 hfit ⊢
  obtain ⟨q, hq⟩ : ∃ q, q = C.length := ⟨_, rfl⟩
  obtain ⟨k, hk⟩ : ∃ k, k = l.length := ⟨_, rfl⟩
  rw [← hq, ← hk] at hfit
  rw [← hk]
  have HQ := Lib.hid hq
  have HK := Lib.hid hk
  have HS := Lib.hid hS
  obtain ⟨A, cc, rfl, hcc⟩ := hS.row.slice
  have HC := Lib.hid (fun wx (hG : Grew w wx) => (show wx.cell? ⟨g, 0, none⟩ = some (.slice A k cc) from by rw [(hS.cells.grew hG).at_, hk]; rfl))
  have HC1 := Lib.hid (fun wx (hG : Grew w wx) => (show wx.cell? ⟨g, 1, none⟩ = some (.int .i64 f) from by rw [(hS.cells.grew hG).at_]; rfl))
  obtain ⟨ms, hms⟩ : ∃ ms, m.size = ms := ⟨_, rfl⟩
  have d1 : decide (4096 < (ms : Int)) = false := decide_eq_false (by omega)
  have d2 : decide (4096 < ms) = false := decide_eq_false (by omega)
  obtain ⟨F, rfl⟩ := Int.eq_ofNat_of_zero_le hf0
  clear hS hk hq h hC hf0
  go_enter Try.func22, Try.ntmps22
  go_wp2_with fail
  refine H1.out.mono ?_
  rintro e w1 ⟨v5, rfl, hR, hg1⟩
  obtain ⟨A5, c5, rfl, hc5, -⟩ := Kd.R_reads hR
  rw [← HQ.out] at hc5
  have HR := Lib.hid hR
  rw [← HQ.out] at HR
  clear hR
  go_wp2_with fail
  rw [← HQ.out]
  have d3 : decide (64 < (k : Int) + (q : Int)) = false := decide_eq_false (by omega)
  have d4 : decide (1099511627776 < (F : Int) + (k : Int) + (q : Int) - 1) = false := decide_eq_false (by omega)
  have hw1 : IntKind.i64.wrap ((k : Int) + (q : Int)) = (k : Int) + (q : Int) := IntWalk.i64_in _ (by omega)
  have hw2 : IntKind.i64.wrap ((F : Int) + (k : Int)) = (F : Int) + (k : Int) := IntWalk.i64_in _ (by omega)
  have hw3 : IntKind.i64.wrap ((F : Int) + (k : Int) + (q : Int)) = (F : Int) + (k : Int) + (q : Int) := IntWalk.i64_in _ (by omega)
  have hw4 : IntKind.i64.wrap ((F : Int) + (k : Int) + (q : Int) - 1) = (F : Int) + (k : Int) + (q : Int) - 1 := IntWalk.i64_in _ (by omega)
  apply region_grew [Is _, Is _, Is _, Is _, Is _, Is _, Is _, Is _, Is _, Is _, Is _, Is _, Is _, Is _, Is _, Is _, Is _, Is _, Is _, Is _, Is _, Is _] [([(0, none)], none), ([(15, some 0)], none), ([(16, some 1)], none), ([(17, some 2)], none), ([(18, some 3)], none), ([(5, none)], none), ([(20, some 5)], none), ([(19, some 4), (21, some 6)], none), ([(22, some 7)], none), ([(23, some 8)], none), ([(0, none), (24, some 9)], some (24, false)), ([(25, some 10), (24, some 9)], some (24, false)), ([(26, some 11), (24, some 9)], some (24, false)), ([(27, some 12), (24, some 9)], some (24, false)), ([(0, none), (24, some 9)], some (24, false)), ([(29, some 14), (24, some 9)], some (24, false)), ([(30, some 15), (24, some 9)], some (24, false)), ([(31, some 16), (24, some 9)], some (24, false)), ([(32, some 17), (24, some 9)], some (24, false)), ([(28, some 13), (33, some 18), (24, some 9)], some (24, false)), ([(5, none), (24, some 9)], some (24, false)), ([(35, some 20), (24, some 9)], some (24, false))] [(15, 0), (16, 1), (17, 2), (18, 3), (19, 4), (20, 5), (21, 6), (22, 7), (23, 8), (24, 9), (25, 10), (26, 11), (27, 12), (28, 13), (29, 14), (30, 15), (31, 16), (32, 17), (33, 18), (34, 19), (35, 20), (36, 21)] rfl (by kernel_rfl) (by kernel_rfl) (show Stable Grew _ from ⟨Is.stable _, Is.stable _, Is.stable _, Is.stable _, Is.stable _, Is.stable _, Is.stable _, Is.stable _, Is.stable _, Is.stable _, Is.stable _, Is.stable _, Is.stable _, Is.stable _, Is.stable _, Is.stable _, Is.stable _, Is.stable _, Is.stable _, Is.stable _, Is.stable _, Is.stable _, trivial⟩)
  · show OpsHold _ _ _ _ _ _ _ _ _
    refine ⟨fun a_ wx hR hD K hK => ?_, ?_⟩
    · have hG : Grew w1 wx := (Grew.drew _).trans hR
      simp [Deps, Dep, at_, Is] at hD
      go_simp
      exact hK _ _ (Grew.refl _) rfl
    refine ⟨fun a_ wx hR hD K hK => ?_, ?_⟩
    · have hG : Grew w1 wx := (Grew.drew _).trans hR
      simp [Deps, Dep, at_, Is] at hD
      go_simp
      exact hK _ _ (Grew.refl _) rfl
    refine ⟨fun a_ wx hR hD K hK => ?_, ?_⟩
    · have hG : Grew w1 wx := (Grew.drew _).trans hR
      simp [Deps, Dep, at_, Is] at hD
      go_simp
      exact hK _ _ (Grew.refl _) rfl
    refine ⟨fun a_ wx hR hD K hK => ?_, ?_⟩
    · have hG : Grew w1 wx := (Grew.drew _).trans hR
      simp [Deps, Dep, at_, Is] at hD
      have e_ := HC.out wx (Grew.trans hg1 hG)
      go_simp
      exact hK _ _ (Grew.refl _) rfl
    refine ⟨fun a_ wx hR hD K hK => ?_, ?_⟩
    · have hG : Grew w1 wx := (Grew.drew _).trans hR
      simp [Deps, Dep, at_, Is] at hD
      go_simp
      exact hK _ _ (Grew.refl _) rfl
    refine ⟨fun a_ wx hR hD K hK => ?_, ?_⟩
    · have hG : Grew w1 wx := (Grew.drew _).trans hR
      simp [Deps, Dep, at_, Is] at hD
      go_simp
      exact hK _ _ (Grew.refl _) rfl
    refine ⟨fun a_ wx hR hD K hK => ?_, ?_⟩
    · have hG : Grew w1 wx := (Grew.drew _).trans hR
      simp [Deps, Dep, at_, Is] at hD
      go_simp
      exact hK _ _ (Grew.refl _) rfl
    refine ⟨fun a_ wx hR hD K hK => ?_, ?_⟩
    · have hG : Grew w1 wx := (Grew.drew _).trans hR
      simp [Deps, Dep, at_, Is] at hD
      obtain ⟨hd0, hd1⟩ := hD
      go_simp
      exact hK _ _ (Grew.refl _) rfl
    refine ⟨fun a_ wx hR hD K hK => ?_, ?_⟩
    · have hG : Grew w1 wx := (Grew.drew _).trans hR
      simp [Deps, Dep, at_, Is] at hD
      go_simp
      exact hK _ _ (Grew.refl _) rfl
    refine ⟨fun a_ wx hR hD K hK => ?_, ?_⟩
    · have hG : Grew w1 wx := (Grew.drew _).trans hR
      simp [Deps, Dep, at_, Is] at hD
      go_simp
      exact hK _ _ (Grew.refl _) rfl
    refine ⟨fun a_ wx hR hD => ⟨fun hgd K hK => ?_, fun hgd => ?_⟩, ?_⟩
    · have hG : Grew w1 wx := (Grew.drew _).trans hR
      clear hgd
      simp [Deps, Dep, at_, Is] at hD
      obtain ⟨hd0, hd1⟩ := hD
      go_simp
      exact hK _ _ (Grew.refl _) rfl
    · have hG : Grew w1 wx := (Grew.drew _).trans hR
      exfalso
      simp [Deps, Dep, at_, Is] at hD
      first | (simp_all; done) | (simp_all [undef]; done)
    refine ⟨fun a_ wx hR hD => ⟨fun hgd K hK => ?_, fun hgd => ?_⟩, ?_⟩
    · have hG : Grew w1 wx := (Grew.drew _).trans hR
      clear hgd
      simp [Deps, Dep, at_, Is] at hD
      obtain ⟨hd0, hd1⟩ := hD
      go_simp
      exact hK _ _ (Grew.refl _) rfl
    · have hG : Grew w1 wx := (Grew.drew _).trans hR
      exfalso
      simp [Deps, Dep, at_, Is] at hD
      first | (simp_all; done) | (simp_all [undef]; done)
    refine ⟨fun a_ wx hR hD => ⟨fun hgd K hK => ?_, fun hgd => ?_⟩, ?_⟩
    · have hG : Grew w1 wx := (Grew.drew _).trans hR
      clear hgd
      simp [Deps, Dep, at_, Is] at hD
      obtain ⟨hd0, hd1⟩ := hD
      go_simp
      exact hK _ _ (Grew.refl _) rfl
    · have hG : Grew w1 wx := (Grew.drew _).trans hR
      exfalso
      simp [Deps, Dep, at_, Is] at hD
      first | (simp_all; done) | (simp_all [undef]; done)
    refine ⟨fun a_ wx hR hD => ⟨fun hgd K hK => ?_, fun hgd => ?_⟩, ?_⟩
    · have hG : Grew w1 wx := (Grew.drew _).trans hR
      clear hgd
      simp [Deps, Dep, at_, Is] at hD
      obtain ⟨hd0, hd1⟩ := hD
      have e_ := HC1.out wx (Grew.trans hg1 hG)
      go_simp
      exact hK _ _ (Grew.refl _) rfl
    · have hG : Grew w1 wx := (Grew.drew _).trans hR
      exfalso
      simp [Deps, Dep, at_, Is] at hD
      first | (simp_all; done) | (simp_all [undef]; done)
    refine ⟨fun a_ wx hR hD => ⟨fun hgd K hK => ?_, fun hgd => ?_⟩, ?_⟩
    · have hG : Grew w1 wx := (Grew.drew _).trans hR
      clear hgd
      simp [Deps, Dep, at_, Is] at hD
      obtain ⟨hd0, hd1⟩ := hD
      go_simp
      exact hK _ _ (Grew.refl _) rfl
    · have hG : Grew w1 wx := (Grew.drew _).trans hR
      exfalso
      simp [Deps, Dep, at_, Is] at hD
      first | (simp_all; done) | (simp_all [undef]; done)
    refine ⟨fun a_ wx hR hD => ⟨fun hgd K hK => ?_, fun hgd => ?_⟩, ?_⟩
    · have hG : Grew w1 wx := (Grew.drew _).trans hR
      clear hgd
      simp [Deps, Dep, at_, Is] at hD
      obtain ⟨hd0, hd1⟩ := hD
      go_simp
      exact hK _ _ (Grew.refl _) rfl
    · have hG : Grew w1 wx := (Grew.drew _).trans hR
      exfalso
      simp [Deps, Dep, at_, Is] at hD
      first | (simp_all; done) | (simp_all [undef]; done)
    refine ⟨fun a_ wx hR hD => ⟨fun hgd K hK => ?_, fun hgd => ?_⟩, ?_⟩
    · have hG : Grew w1 wx := (Grew.drew _).trans hR
      clear hgd
      simp [Deps, Dep, at_, Is] at hD
      obtain ⟨hd0, hd1⟩ := hD
      go_simp
      exact hK _ _ (Grew.refl _) rfl
    · have hG : Grew w1 wx := (Grew.drew _).trans hR
      exfalso
      simp [Deps, Dep, at_, Is] at hD
      first | (simp_all; done) | (simp_all [undef]; done)
    refine ⟨fun a_ wx hR hD => ⟨fun hgd K hK => ?_, fun hgd => ?_⟩, ?_⟩
    · have hG : Grew w1 wx := (Grew.drew _).trans hR
      clear hgd
      simp [Deps, Dep, at_, Is] at hD
      obtain ⟨hd0, hd1⟩ := hD
      have e_ := HC.out wx (Grew.trans hg1 hG)
      go_simp
      exact hK _ _ (Grew.refl _) rfl
    · have hG : Grew w1 wx := (Grew.drew _).trans hR
      exfalso
      simp [Deps, Dep, at_, Is] at hD
      first | (simp_all; done) | (simp_all [undef]; done)
    refine ⟨fun a_ wx hR hD => ⟨fun hgd K hK => ?_, fun hgd => ?_⟩, ?_⟩
    · have hG : Grew w1 wx := (Grew.drew _).trans hR
      clear hgd
      simp [Deps, Dep, at_, Is] at hD
      obtain ⟨hd0, hd1⟩ := hD
      go_simp
      exact hK _ _ (Grew.refl _) rfl
    · have hG : Grew w1 wx := (Grew.drew _).trans hR
      exfalso
      simp [Deps, Dep, at_, Is] at hD
      first | (simp_all; done) | (simp_all [undef]; done)
    refine ⟨fun a_ wx hR hD => ⟨fun hgd K hK => ?_, fun hgd => ?_⟩, ?_⟩
    · have hG : Grew w1 wx := (Grew.drew _).trans hR
      clear hgd
      simp [Deps, Dep, at_, Is] at hD
      obtain ⟨hd0, hd1, hd2⟩ := hD
      go_simp
      exact hK _ _ (Grew.refl _) rfl
    · have hG : Grew w1 wx := (Grew.drew _).trans hR
      exfalso
      simp [Deps, Dep, at_, Is] at hD
      first | (simp_all; done) | (simp_all [undef]; done)
    refine ⟨fun a_ wx hR hD => ⟨fun hgd K hK => ?_, fun hgd => ?_⟩, ?_⟩
    · have hG : Grew w1 wx := (Grew.drew _).trans hR
      clear hgd
      simp [Deps, Dep, at_, Is] at hD
      obtain ⟨hd0, hd1⟩ := hD
      go_simp
      exact hK _ _ (Grew.refl _) rfl
    · have hG : Grew w1 wx := (Grew.drew _).trans hR
      exfalso
      simp [Deps, Dep, at_, Is] at hD
      first | (simp_all; done) | (simp_all [undef]; done)
    refine ⟨fun a_ wx hR hD => ⟨fun hgd K hK => ?_, fun hgd => ?_⟩, ?_⟩
    · have hG : Grew w1 wx := (Grew.drew _).trans hR
      clear hgd
      simp [Deps, Dep, at_, Is] at hD
      obtain ⟨hd0, hd1⟩ := hD
      go_simp
      exact hK _ _ (Grew.refl _) rfl
    · have hG : Grew w1 wx := (Grew.drew _).trans hR
      exfalso
      simp [Deps, Dep, at_, Is] at hD
      first | (simp_all; done) | (simp_all [undef]; done)
    trivial
  · show EndHold _ _ _ _ _ _ _
    refine end_all (xs := [_, _, _, _, _, _, _, _, _, _, _, _, _, _, _, _, _, _, _, _, _, _]) ⟨rfl, rfl, rfl, rfl, rfl, rfl, rfl, rfl, rfl, rfl, rfl, rfl, rfl, rfl, rfl, rfl, rfl, rfl, rfl, rfl, rfl, rfl, trivial⟩ ?_
    rintro w2 hR1 -
    refine ⟨?_⟩
    have hG_w2 : Grew w1 w2 := (Grew.drew _).trans hR1
    clear hR1
    simp only [Act.put, List.setIfInBounds_toArray, List.set_cons_succ, List.set_cons_zero, dropN, putEach]
    clear hw1 hw2 hw3 hw4 d3 d4
    go_wp2_with fail
    have hz0 : RowO w B 86 8 (.slice A l.length cc) l.length (sdc l) := HS.out.row
    have hS2 := (HS.out.grew hg1).grew hG_w2
    have hR2 := Kd.R_below HR.out hG_w2
    have hu2 : Upd (sndS g (.slice A l.length cc)) w w2 := Upd.of_grew (Grew.trans hg1 hG_w2)
    have H0 := Lib.hid hz0
    clear hz0
    go_loopw [43] (fun iv wr => ∃ (pre suf : List S30) (v' : Value), iv = .int .i64 (pre.length : Int) ∧ C = pre ++ suf ∧ SndM B g v' (l ++ fresh ((F : Int) + (k : Int)) pre) (F : Int) n wr ∧ Kd.R k30 30 wr w.heap.size (fun _ => True) (.slice A5 q c5) C ∧ Upd (sndS g (.slice A l.length cc)) w wr ∧ (v'.ownBlock = (Value.slice A l.length cc).ownBlock ∨ ∃ k, v'.ownBlock = some k ∧ w.heap.size ≤ k)) (fun iv _ => q - (intOf iv).toNat)
    case atStart => exact ⟨[], C, _, rfl, rfl, by simpa [fresh] using hS2, hR2, hu2, .inl rfl⟩
    case round =>
      obtain ⟨pre, suf, v', rfl, hp, hI, hRr, hur, hat⟩ := hrel
      have hnn := HQ.out
      rw [hp, List.length_append] at hnn
      clear hS2 hR2 hu2
      rcases suf with _ | ⟨p, suf⟩
      · have e1 : decide ((pre.length : Int) < (q : Int)) = false := decide_eq_false (by simp at hnn; omega)
        have e2 : decide (pre.length < q) = false := decide_eq_false (by simp at hnn; omega)
        rw [List.append_nil] at hp
        have HP := Lib.hid hp
        have HI := Lib.hid hI
        clear hp hnn hI
        go_wp2_with fail
        go_ret
        exact ⟨v', rfl, by rw [HP.out]; exact HI.out, hur, hat⟩
      · have hlt : pre.length < q := by simp at hnn; omega
        have e1 : decide ((pre.length : Int) < (q : Int)) = true := decide_eq_true (by omega)
        have e2 : decide (pre.length < q) = true := decide_eq_true hlt
        have i1 : (pre.length : Int) < (q : Int) := by omega
        have hC5 := (Kd.R_reads' hRr).2.2
        rw [← HQ.out] at hC5
        obtain ⟨ad0, rfl, k0, k1, k2, k3, k4⟩ := at_T30 hC5 (pre.length : Int) (by omega) (by omega)
        have hxe : rd_T30 C (pre.length : Int) = p := by
          unfold rd_T30; rw [Int.toNat_natCast, hp]; simp [List.getD]
        rw [Int.toNat_natCast, hxe] at k0 k1 k2 k3 k4
        have HP := Lib.hid (show C = (pre ++ [p]) ++ suf from by rw [hp]; simp)
        obtain ⟨f0, f1, f2, f3, f4⟩ := p
        have HRR := Lib.hid hRr
        have HUR := Lib.hid hur
        have HAT := Lib.hid hat
        have HII := Lib.hid hI
        clear hp hnn hxe hC5 hRr hur hat hI
        go_wp2_with fail
        obtain ⟨g7, hg7⟩ : ∃ g7, g7 = wr.heap.size := ⟨_, rfl⟩
        obtain ⟨W2, hW2⟩ : ∃ W2, W2 = wr.alloc (.cells #[.bool f0, .int .i64 f1, .bool f2, .string f3, .int .i64 f4] 30) := ⟨_, rfl⟩
        have hb7 : Blk W2 g7 30 [.bool f0, .int .i64 f1, .bool f2, .string f3, .int .i64 f4] := by rw [hW2, hg7]; exact Blk.new wr _ _
        have hgr2 : Grew wr W2 := by rw [hW2]; exact Grew.alloc _ _
        rw [← hg7, ← hW2]
        have hI2 := HII.out.grew hgr2
        obtain ⟨A3, c3, hv3, hc3⟩ := hI2.row.slice
        subst hv3
        obtain ⟨KN, hK⟩ : ∃ KN, KN = (l ++ fresh ((F : Int) + (k : Int)) pre).length := ⟨_, rfl⟩
        have hKe : KN = k + pre.length := by rw [hK, List.length_append, fresh_len, HK.out]
        have hx : fresh ((F : Int) + (k : Int)) (pre ++ [⟨f0, f1, f2, f3, f4⟩]) = fresh ((F : Int) + (k : Int)) pre ++ [⟨⟨f0, (F : Int) + (KN : Int), f2, f3, f4⟩, false, 0, false⟩] := by
          rw [fresh_snoc]; congr 4; omega
        rw [← hK] at hI2 HII hc3 HAT
        have HX := Lib.hid hx
        have HKK := Lib.hid hK
        have hk64 : KN ≤ 64 := by omega
        have CL := Lib.hid (show ∀ wx, Grew W2 wx → wx.cell? ⟨g, 0, none⟩ = some (.slice A3 KN c3) from fun wx h => by rw [(hI2.cells.grew h).at_]; rfl)
        have CF := Lib.hid (show ∀ wx, Grew W2 wx → wx.cell? ⟨g, 1, none⟩ = some (.int .i64 (F : Int)) from fun wx h => by rw [(hI2.cells.grew h).at_]; rfl)
        have hgne : g ≠ g7 := by have := HII.out.cells.lt; omega
        have HNE := Lib.hid hgne
        have HB7 := Lib.hid hb7
        have HI2 := Lib.hid hI2
        have HGR := Lib.hid hgr2
        have HG7 := Lib.hid hg7
        have hw2 : IntKind.i64.wrap ((F : Int) + (KN : Int)) = (F : Int) + (KN : Int) := IntWalk.i64_in _ (by omega)
        clear k0 k1 k2 k3 k4 hW2 hb7 hgr2 hI2 hg7 hx hK hKe hgne
        apply region_grew [Is _, Is _, Is _, Is _, Is _, Is _, Is _, Is _, Is _] [([(0, none)], none), ([(47, some 0)], none), ([(48, some 1)], none), ([(49, some 2)], none), ([(0, none)], none), ([(51, some 4)], none), ([(52, some 5)], none), ([(53, some 6)], none), ([(54, some 7)], none)] [(47, 0), (48, 1), (49, 2), (50, 3), (51, 4), (52, 5), (53, 6), (54, 7), (55, 8)] rfl (by kernel_rfl) (by kernel_rfl) (show Stable Grew _ from ⟨Is.stable _, Is.stable _, Is.stable _, Is.stable _, Is.stable _, Is.stable _, Is.stable _, Is.stable _, Is.stable _, trivial⟩)
        · show OpsHold _ _ _ _ _ _ _ _ _
          refine ⟨fun a_ wx hR hD K hK => ?_, ?_⟩
          · have hG : Grew W2 wx := (Grew.drew _).trans hR
            simp [Deps, Dep, at_, Is] at hD
            go_simp
            exact hK _ _ (Grew.refl _) rfl
          refine ⟨fun a_ wx hR hD K hK => ?_, ?_⟩
          · have hG : Grew W2 wx := (Grew.drew _).trans hR
            simp [Deps, Dep, at_, Is] at hD
            go_simp
            exact hK _ _ (Grew.refl _) rfl
          refine ⟨fun a_ wx hR hD K hK => ?_, ?_⟩
          · have hG : Grew W2 wx := (Grew.drew _).trans hR
            simp [Deps, Dep, at_, Is] at hD
            go_simp
            exact hK _ _ (Grew.refl _) rfl
          refine ⟨fun a_ wx hR hD K hK => ?_, ?_⟩
          · have hG : Grew W2 wx := (Grew.drew _).trans hR
            simp [Deps, Dep, at_, Is] at hD
            have e_ := CF.out wx hG
            go_simp
            exact hK _ _ (Grew.refl _) rfl
          refine ⟨fun a_ wx hR hD K hK => ?_, ?_⟩
          · have hG : Grew W2 wx := (Grew.drew _).trans hR
            simp [Deps, Dep, at_, Is] at hD
            go_simp
            exact hK _ _ (Grew.refl _) rfl
          refine ⟨fun a_ wx hR hD K hK => ?_, ?_⟩
          · have hG : Grew W2 wx := (Grew.drew _).trans hR
            simp [Deps, Dep, at_, Is] at hD
            go_simp
            exact hK _ _ (Grew.refl _) rfl
          refine ⟨fun a_ wx hR hD K hK => ?_, ?_⟩
          · have hG : Grew W2 wx := (Grew.drew _).trans hR
            simp [Deps, Dep, at_, Is] at hD
            go_simp
            exact hK _ _ (Grew.refl _) rfl
          refine ⟨fun a_ wx hR hD K hK => ?_, ?_⟩
          · have hG : Grew W2 wx := (Grew.drew _).trans hR
            simp [Deps, Dep, at_, Is] at hD
            have e_ := CL.out wx hG
            go_simp
            exact hK _ _ (Grew.refl _) rfl
          refine ⟨fun a_ wx hR hD K hK => ?_, ?_⟩
          · have hG : Grew W2 wx := (Grew.drew _).trans hR
            simp [Deps, Dep, at_, Is] at hD
            go_simp
            exact hK _ _ (Grew.refl _) rfl
          trivial
        · show EndHold _ _ _ _ _ _ _
          refine end_all (xs := [_, _, _, _, _, _, _, _, _]) ⟨rfl, rfl, rfl, rfl, rfl, rfl, rfl, rfl, rfl, trivial⟩ ?_
          rintro w3 hR1 -
          refine ⟨?_⟩
          have hG_w3 : Grew W2 w3 := (Grew.drew _).trans hR1
          clear hR1
          simp only [Act.put, List.setIfInBounds_toArray, List.set_cons_succ, List.set_cons_zero, dropN, putEach]
          have hb3 := HB7.out.grew hG_w3
          have q1 := hb3.at_ 1
          have ff := hb3.fz 1
          simp only [List.getElem?_cons_zero, List.getElem?_cons_succ] at q1
          have hb4 := hb3.set 1 (.int .i64 ((F : Int) + (KN : Int)))
          obtain ⟨W4, hW4⟩ : ∃ W4, W4 = w3.setCell ⟨g7, 1, none⟩ (.int .i64 ((F : Int) + (KN : Int))) := ⟨_, rfl⟩
          rw [← hW4] at hb4
          have hu4 : Upd (fun k => k = g7) W2 W4 := by rw [hW4]; exact Upd.set (S := fun k => k = g7) (p := ⟨g7, 1, none⟩) (Upd.of_grew hG_w3) (.inl rfl) _
          have hu4' : Grew wr W4 := ((Upd.of_grew (S := fun k => k = g7) HGR.out).trans hu4).grew (fun i hi e => by have := HG7.out; omega)
          have hI4 := HII.out.grew hu4'
          have HW4 := Lib.hid hW4
          have HGW4 := Lib.hid hu4'
          have CL4 := Lib.hid (show ∀ wx, Grew W4 wx → wx.cell? ⟨g, 0, none⟩ = some (.slice A3 KN c3) from fun wx h => by rw [(hI4.cells.grew h).at_]; rfl)
          have CB := Lib.hid (show ∀ wx, Grew W4 wx → (wx.cell? ⟨g7, 0, none⟩ = some (.bool f0) ∧ wx.cell? ⟨g7, 1, none⟩ = some (.int .i64 ((F : Int) + (KN : Int))) ∧ wx.cell? ⟨g7, 2, none⟩ = some (.bool f2) ∧ wx.cell? ⟨g7, 3, none⟩ = some (.string f3) ∧ wx.cell? ⟨g7, 4, none⟩ = some (.int .i64 f4)) from fun wx h => ⟨by rw [(hb4.grew h).at_]; rfl, by rw [(hb4.grew h).at_]; rfl, by rw [(hb4.grew h).at_]; rfl, by rw [(hb4.grew h).at_]; rfl, by rw [(hb4.grew h).at_]; rfl⟩)
          have hlr0 := hI4.row.lt
          have hbase4 : B ≤ W4.heap.size := Nat.le_trans (Nat.le_trans hB HUR.out.size) hu4'.size
          have hro : RowO W4 B 86 8 (.slice A3 KN c3) KN (sdc (l ++ fresh ((F : Int) + (k : Int)) pre)) := by
            have := hI4.row
            rw [← HKK.out] at this
            exact this
          have HRO := Lib.hid hro
          have HI4 := Lib.hid hI4
          clear hb3 hb4 hu4 hu4' hI4 hw2 hW4 hG_w3 hro
          go_wp2_with fail
          rw [← HW4.out]
          clear q1 ff
          apply region_big (fun w w' => w.grownBy w' (Value.slice A3 KN c3).ownBlock) [.float, .plain, .plain, .plain, .plain, .plain, .plain, .plain, .big] [Is _, Is _, Is _, Is _, Is _, Is _, Is _, OneC 86 [.bool f0, .int .i64 ((F : Int) + (KN : Int)), .bool f2, .string f3, .int .i64 f4, .bool false, .int .i64 0, .bool false] (.slice A3 KN c3), AppO B 86 8 (sdc (l ++ fresh ((F : Int) + (k : Int)) pre) ++ sdc1 ⟨⟨f0, (F : Int) + (KN : Int), f2, f3, f4⟩, false, 0, false⟩) (KN + 1) (.slice A3 KN c3) W4.heap.size] [([(0, none)], none), ([(0, none)], none), ([(59, some 1)], none), ([(60, some 2)], none), ([(61, some 3)], none), ([(7, none)], none), ([(63, some 5)], none), ([(64, some 6)], none), ([(62, some 4), (65, some 7)], none)] [(65, 7), (66, 8), (58, 0), (59, 1), (60, 2), (61, 3), (62, 4), (63, 5), (64, 6)] rfl (by kernel_rfl) (by kernel_rfl) (by kernel_rfl) (by kernel_rfl) rfl (show StableB Grew _ _ _ from ⟨(fun _ => Is.stableB _), (fun _ => Is.stableB _), (fun _ => Is.stableB _), (fun _ => Is.stableB _), (fun _ => Is.stableB _), (fun _ => Is.stableB _), (fun _ => Is.stableB _), (fun _ => OneC.stableB _ _ _), (fun h_ => absurd rfl h_), trivial⟩)
          · show PhHold _ _ _ _ _ _ _ _ _ _ _
            refine ⟨fun a_ wx hD K hK => ?_, ?_⟩
            · have hF_ := True.intro
              simp [Deps, Dep, at_, Is] at hD
              go_simp
              exact hK _ _ rfl rfl
            refine ⟨fun a_ wx hR hD K hK => ?_, ?_⟩
            · have hG : Grew W4 wx := (Grew.drew _).trans hR
              simp [Deps, Dep, at_, Is] at hD
              go_simp
              exact hK _ _ (Grew.refl _) rfl
            refine ⟨fun a_ wx hR hD K hK => ?_, ?_⟩
            · have hG : Grew W4 wx := (Grew.drew _).trans hR
              simp [Deps, Dep, at_, Is] at hD
              go_simp
              exact hK _ _ (Grew.refl _) rfl
            refine ⟨fun a_ wx hR hD K hK => ?_, ?_⟩
            · have hG : Grew W4 wx := (Grew.drew _).trans hR
              simp [Deps, Dep, at_, Is] at hD
              go_simp
              exact hK _ _ (Grew.refl _) rfl
            refine ⟨fun a_ wx hR hD K hK => ?_, ?_⟩
            · have hG : Grew W4 wx := (Grew.drew _).trans hR
              simp [Deps, Dep, at_, Is] at hD
              have e_ := CL4.out wx hG
              go_simp
              exact hK _ _ (Grew.refl _) rfl
            refine ⟨fun a_ wx hR hD K hK => ?_, ?_⟩
            · have hG : Grew W4 wx := (Grew.drew _).trans hR
              simp [Deps, Dep, at_, Is] at hD
              obtain ⟨e0, e1, e2, e3, e4⟩ := CB.out wx hG
              go_simp
              exact hK _ _ (Grew.refl _) rfl
            refine ⟨fun a_ wx hR hD K hK => ?_, ?_⟩
            · have hG : Grew W4 wx := (Grew.drew _).trans hR
              simp [Deps, Dep, at_, Is] at hD
              go_simp
              exact hK _ _ (Grew.refl _) rfl
            refine ⟨fun a_ wx hR hD K hK => ?_, ?_⟩
            · have hG : Grew W4 wx := (Grew.drew _).trans hR
              simp [Deps, Dep, at_, Is] at hD
              go_simp
              exact hK _ _ (Grew.alloc _ _) (OneC.new (fun k hk => Nat.lt_of_lt_of_le (hlr0 k hk) hG.size))
            refine ⟨⟨rfl, fun a_ wx hR hD K hK => ?_⟩, ?_⟩
            · have hG : Grew W4 wx := (Grew.drew _).trans hR
              simp [Deps, Dep, at_, Is] at hD
              obtain ⟨hd0, hd1⟩ := hD
              obtain ⟨g1, h1, h2, h3⟩ := hd1
              obtain ⟨v1, wy, hrun, hown1, hgr1, hat1⟩ := app_rowO (P := Try.prog) wx B 75 86 75 (.agg #[.bool false, .int .i64 0, .bool false, .string ⟨#[]⟩, .int .i64 0, .bool false, .int .i64 0, .bool false]) 8 72 Try.underlying75 infoSd rfl (by decide) (by decide) (.slice A3 KN c3) KN _ g1 _ rfl (sdc1_one ⟨⟨f0, (F : Int) + (KN : Int), f2, f3, f4⟩, false, 0, false⟩) (HRO.out.grew hG) h2 (Nat.le_trans hbase4 hG.size) (by omega)
              exact wp_app (.tmp 62) (.tmp 65) 75 (by rfl) (eval_tmp hd0) (eval_tmp h1) hrun (hK _ _ hgr1 ⟨hown1, hat1.imp id (fun ⟨k, h, h'⟩ => ⟨k, h, Nat.le_trans hG.size h'⟩)⟩)
            trivial
          · show EndHold _ _ _ _ _ _ _
            intro v65
            intro v66
            refine end_all (xs := [_, _, _, _, _, _, _]) ⟨rfl, rfl, rfl, rfl, rfl, rfl, rfl, trivial⟩ ?_
            rintro w5 hR1 ⟨⟨-, hOne⟩, hApp⟩
            refine ⟨?_⟩
            obtain ⟨wm_w5, hRm, hP_w5⟩ := hR1
            have hG_w5 : Grew W4 wm_w5 := (Grew.drew _).trans hRm
            clear hRm
            simp only [Act.put, List.setIfInBounds_toArray, List.set_cons_succ, List.set_cons_zero, dropN, putEach]
            obtain ⟨hro5, hat5⟩ := hApp
            obtain ⟨A6, c6, hv6, hc6⟩ := hro5.slice
            subst hv6
            have hu5 : Upd (fun k => (Value.slice A3 KN c3).ownBlock = some k) W4 w5 := (Upd.of_grew hG_w5).grown hP_w5 fun k hk => .inl hk
            have hI6 := HI4.out.app (x := ⟨⟨f0, (F : Int) + (KN : Int), f2, f3, f4⟩, false, 0, false⟩) hu5 (by rw [← HKK.out]; exact hro5)
            have hcl5 := HI4.out.cells.upd hu5 HI4.out.ne
            have q0 := hcl5.at_ 0
            have ff := hcl5.fz 0
            simp only [List.getElem?_cons_zero] at q0
            have hur6 : Upd (sndS g (.slice A3 KN c3)) wr (w5.setCell ⟨g, 0, none⟩ (.slice A6 (KN + 1) c6)) :=
              Upd.set (S := sndS g (.slice A3 KN c3)) (p := ⟨g, 0, none⟩) ((Upd.of_grew HGW4.out).trans (hu5.mono fun i _ h => .inr h)) (.inl (.inl rfl)) _
            have hR6 := R_upd_typed (d := k30) rfl HRR.out hur6 HII.out.typed
            have hur7 := HUR.out.then_ hur6 (fun i hi hs => by
              rcases hs with rfl | hs
              · exact .inl rfl
              · rcases HAT.out with h | ⟨k, h, h2⟩
                · exact .inr (by rw [← h]; exact hs)
                · rw [h] at hs
                  obtain rfl := Option.some.inj hs
                  omega)
            have hat7 : (Value.slice A6 (KN + 1) c6).ownBlock = (Value.slice A l.length cc).ownBlock ∨ ∃ k, (Value.slice A6 (KN + 1) c6).ownBlock = some k ∧ w.heap.size ≤ k := by
              rcases hat5 with h | ⟨k, h, h2⟩
              · rw [h]; exact HAT.out
              · exact .inr ⟨k, h, Nat.le_trans (Nat.le_trans HUR.out.size HGW4.out.size) h2⟩
            have HI6 := Lib.hid hI6
            have HR6 := Lib.hid hR6
            have HU7 := Lib.hid hur7
            have HA7 := Lib.hid hat7
            clear hI6 hR6 hur7 hat7 hur6 hu5 hcl5 hat5 hro5 hP_w5 hG_w5 hOne hlr0 hbase4
            go_wp2_with fail
            go_roundw
            case rel => exact ⟨pre ++ [⟨f0, f1, f2, f3, f4⟩], suf, _, by simp, HP.out, by rw [HX.out, ← List.append_assoc]; exact HI6.out, HR6.out, HU7.out, HA7.out⟩
            case measure => simp [intOf]; omega
end Go.Proofs.Yteaefambkagpbaa.F
