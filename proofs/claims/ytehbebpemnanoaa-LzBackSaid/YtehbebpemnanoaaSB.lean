/- Texts of this seat laid together: Upd, F19, F21, F18, F11, F14, F8, F30, LzL, Grp, MapI, RegB, LzA, LzN, LzI, LzF. -/
import Derived.Test.YtehbebpemnanoaaSA
import Derived.Lib.Hide
import Derived.Maps.AppendAt
import Derived.Maps.GroupsBeside
import Derived.Maps.Range
import Derived.Laws.MakeOwn
import Derived.Maps.OwnSet
import Derived.WideKeyArr

-- Upd
namespace Go.Proofs.Ytehbebpemnanoaa.F
open Go Go.RowKit Go.Proofs.YtehbebpemnanoaaW.PrintWords Go.Proofs.YtehbebpemnanoaaW.PrintLast Go.Proofs.YtehbebpemnanoaaW.PrintMore Go.Proofs.YtehbebpemnanoaaR
set_option linter.unusedSimpArgs false
set_option linter.unusedVariables false
/-- all but the blocks of S stays -/
structure Upd (S : Nat → Prop) (w w' : World) : Prop where
  os : w'.os = w.os
  tape : w'.tape = w.tape
  output : w'.output = w.output
  size : w.heap.size ≤ w'.heap.size
  block : ∀ k, k < w.heap.size → ¬ S k → w'.heap[k]? = w.heap[k]?
theorem Upd.refl (S : Nat → Prop) (w : World) : Upd S w w := ⟨rfl, rfl, rfl, Nat.le_refl _, fun _ _ _ => rfl⟩
theorem Upd.of_grew {S : Nat → Prop} {w w' : World} (h : Grew w w') : Upd S w w' := ⟨h.os, h.tape, h.output, h.size, fun k hk _ => h.block k hk⟩
theorem Upd.then_ {S S2 : Nat → Prop} {a b c : World} (h : Upd S a b) (k : Upd S2 b c) (hs : ∀ i, i < a.heap.size → S2 i → S i) : Upd S a c :=
  ⟨k.os.trans h.os, k.tape.trans h.tape, k.output.trans h.output, Nat.le_trans h.size k.size, fun i hi hn => (k.block i (Nat.lt_of_lt_of_le hi h.size) (fun h2 => hn (hs i hi h2))).trans (h.block i hi hn)⟩
theorem Upd.trans {S : Nat → Prop} {a b c : World} (h : Upd S a b) (k : Upd S b c) : Upd S a c := h.then_ k fun _ _ h => h
theorem Upd.mono {S S2 : Nat → Prop} {a b : World} (h : Upd S a b) (hs : ∀ i, i < a.heap.size → S i → S2 i) : Upd S2 a b :=
  ⟨h.os, h.tape, h.output, h.size, fun i hi hn => h.block i hi (fun h2 => hn (hs i hi h2))⟩
theorem Upd.grew {S : Nat → Prop} {a b : World} (h : Upd S a b) (hs : ∀ i, i < a.heap.size → ¬ S i) : Grew a b := ⟨h.os, h.tape, h.output, h.size, fun i hi => h.block i hi (hs i hi)⟩
theorem Upd.below {S : Nat → Prop} {a b : World} {B : Nat} (h : Upd S a b) (hB : B ≤ a.heap.size) (hs : ∀ i, S i → B ≤ i) : Below B a b :=
  ⟨h.os, h.tape, h.output, h.size, fun i hi => h.block i (Nat.lt_of_lt_of_le hi hB) (fun h2 => by have := hs i h2; omega)⟩
theorem Upd.set {S : Nat → Prop} {a b : World} (h : Upd S a b) {p : Addr} (hp : S p.block ∨ a.heap.size ≤ p.block) (u : Value) : Upd S a (b.setCell p u) :=
  ⟨h.os, h.tape, h.output, by simp [World.setCell]; exact h.size, fun i hi hn => by
    rw [Below.heap_setCell b p u i (fun e => by subst e; rcases hp with hp | hp; exact hn hp; omega)]
    exact h.block i hi hn⟩
theorem Upd.kept {S : Nat → Prop} {a b : World} (h : Upd S a b) : Kept a b S := ⟨h.size, fun i hi hn => h.block i hi hn⟩
theorem Upd.blk {S : Nat → Prop} {a b : World} {g : Nat} {o : Obj} (h : Upd S a b) (hb : a.heap[g]? = some o) (hn : ¬ S g) : b.heap[g]? = some o := (h.block g (blk_lt hb) hn).trans hb
theorem Upd.cell {S : Nat → Prop} {a b : World} {p : Addr} {v : Value} (h : Upd S a b) (hb : a.cell? p = some v) (hn : ¬ S p.block) : b.cell? p = some v := cell_kept hb h.kept hn
theorem Upd.grown {S : Nat → Prop} {a b c : World} {row : Option Nat} (h : Upd S a b) (hg : b.grownBy c row) (hr : ∀ k, row = some k → S k ∨ a.heap.size ≤ k) : Upd S a c :=
  ⟨hg.os.trans h.os, hg.tape.trans h.tape, hg.output.trans h.output, Nat.le_trans h.size hg.size, fun i hi hn => (hg.block i (Nat.lt_of_lt_of_le hi h.size) (fun e => by rcases hr i e.symm with h2 | h2; exact hn h2; omega)).trans (h.block i hi hn)⟩
theorem Upd.own {S : Nat → Prop} {w w1 : World} {base : Nat} {e : TypeId} {size n : Nat} {v : Value} {xs : List Value} (hu : Upd S w w1) (h : w.ownsRow base e size v n xs) (hn : ∀ k, v.ownBlock = some k → ¬ S k) : w1.ownsRow base e size v n xs :=
  own_move h fun k hk => hu.block k (own_lt h k hk) (hn k hk)
/-- what a call comes to: what it returns, and which blocks it may change -/
def Does (S : Nat → Prop) (w : World) (V : World → Value → Prop) (e : Ending) (w' : World) : Prop := ∃ v, e = .returned v ∧ V w' v ∧ Upd S w w'
theorem does_of_tells {S : Nat → Prop} {P : Program} {f : FuncId} {args : Array Value} {w : World} {V : World → Value → Prop} (h : Calls P f args w (Tells w V)) : Calls P f args w (Does S w V) :=
  h.mono fun _ _ ⟨v, he, hv, hg⟩ => ⟨v, he, hv, Upd.of_grew hg⟩
theorem tells_of_does {S : Nat → Prop} {P : Program} {f : FuncId} {args : Array Value} {w : World} {V : World → Value → Prop} (h : Calls P f args w (Does S w V)) (hs : ∀ i, i < w.heap.size → ¬ S i) : Calls P f args w (Tells w V) :=
  h.mono fun _ _ ⟨v, he, hv, hg⟩ => ⟨v, he, hv, hg.grew hs⟩
/-- a block known whole: its cells -/
def Blk (w : World) (g : Nat) (t : TypeId) (cs : List Value) : Prop := w.heap[g]? = some (.cells cs.toArray t (0, 0))
theorem Blk.lt {w : World} {g : Nat} {t : TypeId} {cs : List Value} (h : Blk w g t cs) : g < w.heap.size := blk_lt h
theorem Blk.at_ {w : World} {g : Nat} {t : TypeId} {cs : List Value} (h : Blk w g t cs) (i : Nat) : w.cell? ⟨g, i, none⟩ = cs[i]? := by
  rw [blk_cell h]; simp
theorem Blk.fz {w : World} {g : Nat} {t : TypeId} {cs : List Value} (h : Blk w g t cs) (i : Nat) : w.frozen? ⟨g, i, none⟩ = false := blk_frozen h i
theorem Blk.set {w : World} {g : Nat} {t : TypeId} {cs : List Value} (h : Blk w g t cs) (i : Nat) (u : Value) : Blk (w.setCell ⟨g, i, none⟩ u) g t (cs.set i u) := by
  have := blk_set h i u
  unfold Blk
  rw [this]; simp
theorem Blk.far {w : World} {g : Nat} {t : TypeId} {cs : List Value} (h : Blk w g t cs) {p : Addr} (hp : g ≠ p.block) (u : Value) : Blk (w.setCell p u) g t cs := blk_far h hp u
theorem Blk.upd {S : Nat → Prop} {w w' : World} {g : Nat} {t : TypeId} {cs : List Value} (h : Blk w g t cs) (hu : Upd S w w') (hn : ¬ S g) : Blk w' g t cs := hu.blk h hn
theorem Blk.grew {w w' : World} {g : Nat} {t : TypeId} {cs : List Value} (h : Blk w g t cs) (hu : Grew w w') : Blk w' g t cs := blk_below h hu
theorem Blk.new (w : World) (t : TypeId) (cs : List Value) : Blk (w.alloc (.cells cs.toArray t)) w.heap.size t cs := blk_new w _
/-- a block of numbers reads as a row -/
theorem Blk.own {w : World} {base g : Nat} {t : TypeId} {k : IntKind} {xs : List Int} {n : Nat} (h : Blk w g t (nums k xs)) (hb : base ≤ g) (hn : n ≤ xs.length) (hm : xs.length ≤ 9223372036854775807) : w.ownsRow base t 1 (.slice (some ⟨g, 0, none⟩) n xs.length) n (nums k (xs.take n)) := by
  refine ⟨by simp [nums, Nat.min_eq_left hn], .inr ⟨g, xs.length, (nums k xs).toArray, rfl, hb, h, hn, by simpa [maxLen] using hm, by simp [nums], ?_⟩⟩
  simp [nums, List.map_take]
theorem Blk.reads {w : World} {g : Nat} {t : TypeId} {k : IntKind} {xs : List Int} (h : Blk w g t (nums k xs)) (hm : xs.length ≤ 9223372036854775807) : ReadsInt w k (some ⟨g, 0, none⟩) xs.length xs :=
  ⟨rfl, hm, fun _ => ⟨_, rfl, fun i hi => by rw [add_plain, h.at_]; simp [nums, hi, List.getD_eq_getElem?_getD]⟩⟩
theorem Blk.C {w : World} {g : Nat} {t : TypeId} {k : IntKind} {xs : List Int} (h : Blk w g t (nums k xs)) (hm : xs.length ≤ 9223372036854775807) : Kd.C (Kd.int k) w (some ⟨g, 0, none⟩) xs.length xs := C_of (h.reads hm)
/-- what an append leaves: a row of one's own, in the block it had or in a new one -/
def Appended {α : Type} (enc : α → Value) (base : Nat) (e : TypeId) (v : Value) (xs : List α) (W : World) (v1 : Value) (w1 : World) : Prop :=
  w1.ownsRow base e 1 v1 xs.length (encs enc xs) ∧ W.grownBy w1 v.ownBlock ∧ (v1.ownBlock = v.ownBlock ∨ v1.ownBlock = some W.heap.size)
theorem app_row {P : Program} {α : Type} (enc : α → Value) (d : α) (h1 : ∀ x : α, (enc x).oneCell' = true) (W : World) (base : Nat) (t e ty : TypeId) (z : Value) (bytes : Nat)
    (ht : P.underlying t = some (.slice e)) (hinfo : (P.info? e).map (fun i => (i.zero, i.size, i.bytes)) = some (some z, 1, bytes)) (hz : z.cells.size = 1) (hb0 : 0 < bytes)
    (v : Value) (xs ys : List α) (A : Option Addr) (m c : Nat) (HO : W.ownsRow base e 1 v xs.length (encs enc xs)) (HR : ReadsOf enc d W A m ys) (hbase : base ≤ W.heap.size) (hl : (xs.length + m) * bytes ≤ 140737488355328) :
    ∃ v1 w1, (Builtin.append_ #[t, t] ty #[v, .slice A m c]).run P W = .ok v1 w1 ∧ Appended enc base e v (xs ++ ys) W v1 w1 := by
  obtain ⟨i0, hi, hzz⟩ := Option.map_eq_some_iff.1 hinfo
  simp only [Prod.mk.injEq] at hzz
  obtain ⟨hz0, hz1, hz2⟩ := hzz
  have hm : ys.length = m := HR.1
  have hlen : xs.length + m ≤ 140737488355328 := Nat.le_trans (Nat.le_mul_of_pos_right _ hb0) hl
  rcases Nat.eq_zero_or_pos m with h0 | hpos
  · subst h0
    obtain rfl : ys = [] := List.eq_nil_of_length_eq_zero hm
    refine ⟨v, W, ?_, by simpa using HO, World.grownBy.refl W _, .inl rfl⟩
    have hld : ∀ ad : Addr, (loadCells ad 0).run P W = .ok #[] W := fun ad => by simpa using run_loadCells_list (P := P) W ad [] (by simp)
    rcases HO.2 with ⟨rfl, hn⟩ | ⟨g, cap, cur, rfl, _, _, hnc, _⟩
    · cases A <;> simp [Builtin.append_, run_underlying ht, sizeOf, typeInfo, hi, Builtin.lenOf, Builtin.firstCells, hld]
    · cases A <;> simp [Builtin.append_, run_underlying ht, sizeOf, typeInfo, hi, Builtin.lenOf, Builtin.firstCells, hnc, storeCells, hld]
  · obtain ⟨ad, rfl, hc⟩ := HR.2.2 hpos
    have hcells : ∀ j u, (encs enc ys)[j]? = some u → W.cell? (ad.add j) = some u := by
      intro j u hu
      have hj : j < ys.length := by
        rcases Nat.lt_or_ge j ys.length with h | h
        · exact h
        · simp [encs, List.getElem?_eq_none h] at hu
      rw [encs_get (d := d) ys j hj] at hu
      rw [← hu]
      exact hc j (by omega)
    obtain ⟨v1, w1, hr, h2, h3, _, h5⟩ := run_append_own_at (P := P) W base t ty e i0 z 1 bytes ht hi hz0 hz1 hz2 hz (by omega) v xs.length (encs enc xs) HO ad m c (encs enc ys) (by simp [encs, hm]) hcells
      (by intro u hu; simp only [encs, List.mem_map] at hu; obtain ⟨q, _, rfl⟩ := hu; exact h1 q) (by simp only [maxLen]; omega) hl hbase
    exact ⟨v1, w1, hr, by simpa [encs, hm] using h2, h3, h5⟩
theorem app_num {P : Program} {k : IntKind} (W : World) (base : Nat) (t e ty : TypeId) (bytes : Nat)
    (ht : P.underlying t = some (.slice e)) (hinfo : (P.info? e).map (fun i => (i.zero, i.size, i.bytes)) = some (some (.int k 0), 1, bytes)) (hb0 : 0 < bytes)
    (v : Value) (xs ys : List Int) (A : Option Addr) (m c : Nat) (HO : W.ownsRow base e 1 v xs.length (nums k xs)) (HR : ReadsInt W k A m ys) (hbase : base ≤ W.heap.size) (hl : (xs.length + m) * bytes ≤ 140737488355328) :
    ∃ v1 w1, (Builtin.append_ #[t, t] ty #[v, .slice A m c]).run P W = .ok v1 w1 ∧ Appended (Value.int k) base e v (xs ++ ys) W v1 w1 :=
  app_row (Value.int k) 0 (fun _ => rfl) W base t e ty (.int k 0) bytes ht hinfo rfl hb0 v xs ys A m c HO HR hbase hl
theorem Appended.upd {α : Type} {enc : α → Value} {base : Nat} {e : TypeId} {v v1 : Value} {xs : List α} {W w1 : World} (h : Appended enc base e v xs W v1 w1) : Upd (fun k => v.ownBlock = some k) W w1 :=
  (Upd.refl _ W).grown h.2.1 fun k hk => .inl hk
/-- a row of one's own, cut short -/
theorem own_take {w : World} {base n m cap size : Nat} {e : TypeId} {A : Option Addr} {xs : List Value} (h : w.ownsRow base e size (.slice A n cap) n xs) (hm : m ≤ n) : w.ownsRow base e size (.slice A m cap) m (xs.take (m * size)) := by
  obtain ⟨hl, h⟩ := h
  refine ⟨by rw [List.length_take, hl]; exact Nat.min_eq_left (Nat.mul_le_mul_right _ hm), ?_⟩
  rcases h with ⟨hv, hn⟩ | ⟨g, cap', cur, hv, hb, hh, hnc, hcm, hcs, htake⟩
  · injection hv with h1 h2 h3
    subst h1 h3
    obtain rfl : m = 0 := by omega
    exact .inl ⟨rfl, rfl⟩
  · injection hv with h1 h2 h3
    subst h1 h3
    refine .inr ⟨g, cap, cur, rfl, hb, hh, by omega, hcm, hcs, ?_⟩
    rw [← htake, List.take_take, Nat.min_eq_left (Nat.mul_le_mul_right _ hm)]
/-- a slice of one element in a block of its own, which is not the row that is written -/
def One (e : TypeId) (x : Value) (vb : Value) : World → Value → Prop := fun w v => ∃ g1, v = .slice (some ⟨g1, 0, none⟩) 1 1 ∧ Blk w g1 e [x] ∧ some g1 ≠ vb.ownBlock
theorem One.stableB (e : TypeId) (x vb : Value) : ∀ w w' v, Grew w w' ∨ w.grownBy w' vb.ownBlock → One e x vb w v → One e x vb w' v :=
  fun _ _ _ hr ⟨g1, h1, h2, h3⟩ => ⟨g1, h1, hr.elim h2.grew (fun hg => blk_grown h2 hg h3), h3⟩
theorem One.stable (e : TypeId) (x vb : Value) : ∀ w w' v, Grew w w' → One e x vb w v → One e x vb w' v := fun w w' v hg => One.stableB e x vb w w' v (.inl hg)
theorem One.new {w : World} {e : TypeId} {x vb : Value} (h : ∀ k, vb.ownBlock = some k → k < w.heap.size) : One e x vb (w.alloc (.cells #[x] e)) (.slice (some ⟨w.heap.size, 0, none⟩) 1 1) :=
  ⟨_, rfl, Blk.new w e [x], fun he => by have := h _ he.symm; omega⟩
/-- the row behind an append -/
def AppV (base : Nat) (e : TypeId) (cs : List Value) (n : Nat) (vb : Value) (N : Nat) : World → Value → Prop := fun w v => w.ownsRow base e 1 v n cs ∧ (v.ownBlock = vb.ownBlock ∨ ∃ k, v.ownBlock = some k ∧ N ≤ k)
theorem Blk.reads_of {w : World} {g : Nat} {e : TypeId} {α : Type} {enc : α → Value} {d : α} {xs : List α} (h : Blk w g e (encs enc xs)) (hm : xs.length ≤ 9223372036854775807) : ReadsOf enc d w (some ⟨g, 0, none⟩) xs.length xs :=
  ⟨rfl, hm, fun _ => ⟨_, rfl, fun i hi => by rw [add_plain, h.at_]; exact encs_get xs i hi⟩⟩
theorem eval_tmp {a : Act} {t : Tmp} {v : Value} (h : a.tmps[t]?.getD undef = v) : a.eval (.tmp t) = v := by simpa [Act.eval] using h
/-- append as one operation, by the equation of its run -/
theorem wp_app {P : Program} {o : Oper} {a : Act} {w : World} {K : Act → World → Prop} {Q : Exit → Act → World → Prop} (s x : Operand) (t : TypeId)
    (ho : o.op = .call { callee := .builtin .append, args := #[s, x], argTypes := #[t, t] }) {v y : Value} (hs : a.eval s = v) (hx : a.eval x = y) {v1 : Value} {w1 : World}
    (hr : (Builtin.append_ #[t, t] o.type #[v, y]).run P w = .ok v1 w1) (h : K (a.put o.dst v1) w1) : Oper.wp P o a w K Q := by
  unfold Oper.wp execOp
  simp only [ho, resolve, invoke, builtin, Sem.run_bind, Sem.run_pure, Result.andThen_ok, List.map_toArray, List.map_cons, List.map_nil, hs, hx, hr]
  exact h
theorem wpList_app {P : Program} {ops : Array Oper} {rest : List Oper} {o : Oper} {a : Act} {w : World} {Q : Exit → Act → World → Prop} (hgd : o.guard = none) (s x : Operand) (t : TypeId)
    (ho : o.op = .call { callee := .builtin .append, args := #[s, x], argTypes := #[t, t] }) {v y : Value} (hs : a.eval s = v) (hx : a.eval x = y) {v1 : Value} {w1 : World}
    (hr : (Builtin.append_ #[t, t] o.type #[v, y]).run P w = .ok v1 w1) (h : wpList P ops Q rest (a.put o.dst v1) w1) : wpList P ops Q (o :: rest) a w :=
  wpList_plain hgd fun K hK => wp_app s x t ho hs hx hr (hK _ _ h)
theorem Upd.of_grown {w w' : World} {row : Option Nat} (h : w.grownBy w' row) : Upd (fun k => row = some k) w w' := (Upd.refl _ w).grown h fun k hk => .inl hk
theorem Upd.of_alloc_grown {w wn : World} {o : Obj} {row : Option Nat} (h : (w.alloc o).grownBy wn row) : Upd (fun k => row = some k) w wn :=
  (Upd.of_grew (Grew.alloc w o)).then_ (Upd.of_grown h) fun _ _ h => h
theorem add_block (a : Addr) (j : Nat) : (a.add j).block = a.block := by unfold Addr.add; split <;> rfl
/-- a row that is read stays, if what changes lies elsewhere -/
theorem C_upd {S : Nat → Prop} {w w' : World} {k : IntKind} {A : Option Addr} {n : Nat} {xs : List Int} (h : Kd.C (Kd.int k) w A n xs) (hu : Upd S w w') (hA : ∀ ad, A = some ad → ¬ S ad.block) : Kd.C (Kd.int k) w' A n xs := by
  obtain ⟨h1, h2, h3⟩ := reads_of h
  refine C_of ⟨h1, h2, fun hp => ?_⟩
  obtain ⟨ad, rfl, hc⟩ := h3 hp
  exact ⟨ad, rfl, fun j hj => hu.cell (hc j hj) (by rw [add_block]; exact hA ad rfl)⟩
end Go.Proofs.Ytehbebpemnanoaa.F

-- F19
namespace Go.Proofs.Ytehbebpemnanoaa.F
open Go.RowKit Go.Proofs.YtehbebpemnanoaaW.PrintWords Go.Proofs.YtehbebpemnanoaaW.PrintLast Go.Proofs.YtehbebpemnanoaaW.PrintMore
attribute [local go_sem] max2_int min2_int max_two min_two max_three min_three max_four min_four   -- for this text's walks alone
set_option linter.unusedVariables false
set_option linter.unusedSimpArgs false

/-! ### lz_right: function 19 -/
def lz_right.f (a0_0 : Int) (a0_1 : Int) (a0_2 : ByteArray) : Option (Bool) := if a0_2.toList = ([] : List UInt8) then (if a0_1 ≥ 3 then (if a0_1 ≤ 130 then (if a0_0 ≥ 1 then (some (decide (a0_0 ≤ 65536))) else (some false)) else (some false)) else (some false)) else (if (a0_2.size : Int) ≤ 128 then (if a0_0 = 0 then (some (a0_1 == 0)) else (some false)) else (some false))
set_option maxHeartbeats 8000000 in
set_option maxRecDepth 100000 in
theorem lz_right.calls (a0_0 : Int) (a0_1 : Int) (a0_2 : ByteArray) (r : Bool) (w : World) (h : lz_right.f a0_0 a0_1 a0_2 = some r) :
    Calls Try.prog 19 #[.agg #[.int .i64 a0_0, .int .i64 a0_1, .string a0_2]] w fun e w' => e = .returned (.bool r) ∧ Below w.heap.size w w' := by
  have hu47 := Try.underlying47
  have HB := Aside0.mk (Below.refl w.heap.size w)
  have H : (if a0_2.toList = ([] : List UInt8) then (if a0_1 ≥ 3 then (if a0_1 ≤ 130 then (if a0_0 ≥ 1 then (some (decide (a0_0 ≤ 65536))) else (some false)) else (some false)) else (some false)) else (if (a0_2.size : Int) ≤ 128 then (if a0_0 = 0 then (some (a0_1 == 0)) else (some false)) else (some false))) = some r := h
  clear h
  by_cases c2 : a0_2.toList = ([] : List UInt8)
  · rw [if_pos c2] at H
    have c2b0 : (a0_2.toList == ([] : List UInt8)) = true := beq_iff_eq.mpr c2
    have c2b1 : (a0_2.toList != ([] : List UInt8)) = false := bne_eq_false_iff_eq.mpr c2
    clear c2
    by_cases c3 : a0_1 ≥ 3
    · rw [if_pos c3] at H
      have c3b0 : decide (3 ≤ a0_1) = true := decide_eq_true c3
      clear c3
      by_cases c4 : a0_1 ≤ 130
      · rw [if_pos c4] at H
        have c4b0 : decide (a0_1 ≤ 130) = true := decide_eq_true c4
        clear c4
        by_cases c5 : a0_0 ≥ 1
        · rw [if_pos c5] at H
          have c5b0 : decide (1 ≤ a0_0) = true := decide_eq_true c5
          clear c5
          obtain rfl := Option.some.inj H
          go_enter Try.func19, Try.ntmps19
          go_wp2_with (first | ((with_reducible refine gate_dst (N := 1) rfl ?_); refine box_event ?hg (N := 1) ?hd (cs := #[.int .i64 a0_0, .int .i64 a0_1, .string a0_2]) (t := 47) ?hr ?_; (case hd => rfl); (case hg => rfl); (case hr => first | (go_simp; done) | (go_simp; rfl)); intro gb129 hg w6 hbox hb; have n0_ := Aside0.mk (below_step (by repeat (first | (with_reducible first | exact HB.out | apply below_alloc | apply pw_below_drewN | apply below_drew1) | exact HB.out)) hb); have n1_ := Aside0.mk (hbox); have n2_ := Aside0.mk ((by rw [hg]; exact (below_size (by repeat (first | (with_reducible first | exact HB.out | apply below_alloc | apply pw_below_drewN | apply below_drew1) | exact HB.out))) : w.heap.size ≤ gb129)); have n3_ := Aside0.mk ((by rw [hg]; exact (below_size (by repeat (first | (with_reducible first | exact HB.out | apply below_alloc | apply pw_below_drewN | apply below_drew1) | exact HB.out))) : w.heap.size ≤ gb129)); clear HB; have HB := n0_; have BK129 := n1_; have GW129 := n2_; have GE129 := n3_; clear n0_ n1_ n2_ n3_; clear hb hbox hg; have hcz7_0 : w6.cell? ⟨gb129, 0, none⟩ = some (.int .i64 a0_0) := (blk_cell BK129.out 0).trans rfl; have hcz7_1 : w6.cell? ⟨gb129, 1, none⟩ = some (.int .i64 a0_1) := (blk_cell BK129.out 1).trans rfl; have hcz7_2 : w6.cell? ⟨gb129, 2, none⟩ = some (.string a0_2) := (blk_cell BK129.out 2).trans rfl; have hfz7_0 := blk_frozen BK129.out 0; have hfz7_1 := blk_frozen BK129.out 1; have hfz7_2 := blk_frozen BK129.out 2))
          go_ret
          exact ⟨by first | rfl | (simp [errW_none, errW_some] <;> rfl) | (simp [*, errW_none, errW_some] <;> rfl), by repeat (first | (with_reducible first | exact HB.out | apply below_alloc | apply pw_below_drewN | apply below_drew1 | refine below_set ?_ GE129.out) | exact HB.out)⟩
        · rw [if_neg c5] at H
          have c5b0 : decide (1 ≤ a0_0) = false := decide_eq_false c5
          clear c5
          obtain rfl := Option.some.inj H
          go_enter Try.func19, Try.ntmps19
          go_wp2_with (first | ((with_reducible refine gate_dst (N := 1) rfl ?_); refine box_event ?hg (N := 1) ?hd (cs := #[.int .i64 a0_0, .int .i64 a0_1, .string a0_2]) (t := 47) ?hr ?_; (case hd => rfl); (case hg => rfl); (case hr => first | (go_simp; done) | (go_simp; rfl)); intro gb129 hg w8 hbox hb; have n0_ := Aside0.mk (below_step (by repeat (first | (with_reducible first | exact HB.out | apply below_alloc | apply pw_below_drewN | apply below_drew1) | exact HB.out)) hb); have n1_ := Aside0.mk (hbox); have n2_ := Aside0.mk ((by rw [hg]; exact (below_size (by repeat (first | (with_reducible first | exact HB.out | apply below_alloc | apply pw_below_drewN | apply below_drew1) | exact HB.out))) : w.heap.size ≤ gb129)); have n3_ := Aside0.mk ((by rw [hg]; exact (below_size (by repeat (first | (with_reducible first | exact HB.out | apply below_alloc | apply pw_below_drewN | apply below_drew1) | exact HB.out))) : w.heap.size ≤ gb129)); clear HB; have HB := n0_; have BK129 := n1_; have GW129 := n2_; have GE129 := n3_; clear n0_ n1_ n2_ n3_; clear hb hbox hg; have hcz9_0 : w8.cell? ⟨gb129, 0, none⟩ = some (.int .i64 a0_0) := (blk_cell BK129.out 0).trans rfl; have hcz9_1 : w8.cell? ⟨gb129, 1, none⟩ = some (.int .i64 a0_1) := (blk_cell BK129.out 1).trans rfl; have hcz9_2 : w8.cell? ⟨gb129, 2, none⟩ = some (.string a0_2) := (blk_cell BK129.out 2).trans rfl; have hfz9_0 := blk_frozen BK129.out 0; have hfz9_1 := blk_frozen BK129.out 1; have hfz9_2 := blk_frozen BK129.out 2))
          go_ret
          exact ⟨by first | rfl | (simp [errW_none, errW_some] <;> rfl) | (simp [*, errW_none, errW_some] <;> rfl), by repeat (first | (with_reducible first | exact HB.out | apply below_alloc | apply pw_below_drewN | apply below_drew1 | refine below_set ?_ GE129.out) | exact HB.out)⟩
      · rw [if_neg c4] at H
        have c4b0 : decide (a0_1 ≤ 130) = false := decide_eq_false c4
        clear c4
        obtain rfl := Option.some.inj H
        go_enter Try.func19, Try.ntmps19
        go_wp2_with (first | ((with_reducible refine gate_dst (N := 1) rfl ?_); refine box_event ?hg (N := 1) ?hd (cs := #[.int .i64 a0_0, .int .i64 a0_1, .string a0_2]) (t := 47) ?hr ?_; (case hd => rfl); (case hg => rfl); (case hr => first | (go_simp; done) | (go_simp; rfl)); intro gb129 hg w10 hbox hb; have n0_ := Aside0.mk (below_step (by repeat (first | (with_reducible first | exact HB.out | apply below_alloc | apply pw_below_drewN | apply below_drew1) | exact HB.out)) hb); have n1_ := Aside0.mk (hbox); have n2_ := Aside0.mk ((by rw [hg]; exact (below_size (by repeat (first | (with_reducible first | exact HB.out | apply below_alloc | apply pw_below_drewN | apply below_drew1) | exact HB.out))) : w.heap.size ≤ gb129)); have n3_ := Aside0.mk ((by rw [hg]; exact (below_size (by repeat (first | (with_reducible first | exact HB.out | apply below_alloc | apply pw_below_drewN | apply below_drew1) | exact HB.out))) : w.heap.size ≤ gb129)); clear HB; have HB := n0_; have BK129 := n1_; have GW129 := n2_; have GE129 := n3_; clear n0_ n1_ n2_ n3_; clear hb hbox hg; have hcz11_0 : w10.cell? ⟨gb129, 0, none⟩ = some (.int .i64 a0_0) := (blk_cell BK129.out 0).trans rfl; have hcz11_1 : w10.cell? ⟨gb129, 1, none⟩ = some (.int .i64 a0_1) := (blk_cell BK129.out 1).trans rfl; have hcz11_2 : w10.cell? ⟨gb129, 2, none⟩ = some (.string a0_2) := (blk_cell BK129.out 2).trans rfl; have hfz11_0 := blk_frozen BK129.out 0; have hfz11_1 := blk_frozen BK129.out 1; have hfz11_2 := blk_frozen BK129.out 2))
        go_ret
        exact ⟨by first | rfl | (simp [errW_none, errW_some] <;> rfl) | (simp [*, errW_none, errW_some] <;> rfl), by repeat (first | (with_reducible first | exact HB.out | apply below_alloc | apply pw_below_drewN | apply below_drew1 | refine below_set ?_ GE129.out) | exact HB.out)⟩
    · rw [if_neg c3] at H
      have c3b0 : decide (3 ≤ a0_1) = false := decide_eq_false c3
      clear c3
      obtain rfl := Option.some.inj H
      go_enter Try.func19, Try.ntmps19
      go_wp2_with (first | ((with_reducible refine gate_dst (N := 1) rfl ?_); refine box_event ?hg (N := 1) ?hd (cs := #[.int .i64 a0_0, .int .i64 a0_1, .string a0_2]) (t := 47) ?hr ?_; (case hd => rfl); (case hg => rfl); (case hr => first | (go_simp; done) | (go_simp; rfl)); intro gb129 hg w12 hbox hb; have n0_ := Aside0.mk (below_step (by repeat (first | (with_reducible first | exact HB.out | apply below_alloc | apply pw_below_drewN | apply below_drew1) | exact HB.out)) hb); have n1_ := Aside0.mk (hbox); have n2_ := Aside0.mk ((by rw [hg]; exact (below_size (by repeat (first | (with_reducible first | exact HB.out | apply below_alloc | apply pw_below_drewN | apply below_drew1) | exact HB.out))) : w.heap.size ≤ gb129)); have n3_ := Aside0.mk ((by rw [hg]; exact (below_size (by repeat (first | (with_reducible first | exact HB.out | apply below_alloc | apply pw_below_drewN | apply below_drew1) | exact HB.out))) : w.heap.size ≤ gb129)); clear HB; have HB := n0_; have BK129 := n1_; have GW129 := n2_; have GE129 := n3_; clear n0_ n1_ n2_ n3_; clear hb hbox hg; have hcz13_0 : w12.cell? ⟨gb129, 0, none⟩ = some (.int .i64 a0_0) := (blk_cell BK129.out 0).trans rfl; have hcz13_1 : w12.cell? ⟨gb129, 1, none⟩ = some (.int .i64 a0_1) := (blk_cell BK129.out 1).trans rfl; have hcz13_2 : w12.cell? ⟨gb129, 2, none⟩ = some (.string a0_2) := (blk_cell BK129.out 2).trans rfl; have hfz13_0 := blk_frozen BK129.out 0; have hfz13_1 := blk_frozen BK129.out 1; have hfz13_2 := blk_frozen BK129.out 2))
      go_ret
      exact ⟨by first | rfl | (simp [errW_none, errW_some] <;> rfl) | (simp [*, errW_none, errW_some] <;> rfl), by repeat (first | (with_reducible first | exact HB.out | apply below_alloc | apply pw_below_drewN | apply below_drew1 | refine below_set ?_ GE129.out) | exact HB.out)⟩
  · rw [if_neg c2] at H
    have c2b0 : (a0_2.toList == ([] : List UInt8)) = false := beq_eq_false_iff_ne.mpr c2
    have c2b1 : (a0_2.toList != ([] : List UInt8)) = true := bne_iff_ne.mpr c2
    by_cases c14 : (a0_2.size : Int) ≤ 128
    · rw [if_pos c14] at H
      have c14b0 : decide ((a0_2.size : Int) ≤ 128) = true := decide_eq_true c14
      have c14b1 : decide (a0_2.size ≤ 128) = true := decide_eq_true (by omega)
      clear c14
      by_cases c15 : a0_0 = 0
      · rw [if_pos c15] at H
        have c15b0 : (a0_0 == 0) = true := beq_iff_eq.mpr c15
        have c15b1 : (a0_0 != 0) = false := bne_eq_false_iff_eq.mpr c15
        clear c15
        obtain rfl := Option.some.inj H
        go_enter Try.func19, Try.ntmps19
        go_wp2_with (first | ((with_reducible refine gate_dst (N := 1) rfl ?_); refine box_event ?hg (N := 1) ?hd (cs := #[.int .i64 a0_0, .int .i64 a0_1, .string a0_2]) (t := 47) ?hr ?_; (case hd => rfl); (case hg => rfl); (case hr => first | (go_simp; done) | (go_simp; rfl)); intro gb129 hg w16 hbox hb; have n0_ := Aside0.mk (below_step (by repeat (first | (with_reducible first | exact HB.out | apply below_alloc | apply pw_below_drewN | apply below_drew1) | exact HB.out)) hb); have n1_ := Aside0.mk (hbox); have n2_ := Aside0.mk ((by rw [hg]; exact (below_size (by repeat (first | (with_reducible first | exact HB.out | apply below_alloc | apply pw_below_drewN | apply below_drew1) | exact HB.out))) : w.heap.size ≤ gb129)); have n3_ := Aside0.mk ((by rw [hg]; exact (below_size (by repeat (first | (with_reducible first | exact HB.out | apply below_alloc | apply pw_below_drewN | apply below_drew1) | exact HB.out))) : w.heap.size ≤ gb129)); clear HB; have HB := n0_; have BK129 := n1_; have GW129 := n2_; have GE129 := n3_; clear n0_ n1_ n2_ n3_; clear hb hbox hg; have hcz17_0 : w16.cell? ⟨gb129, 0, none⟩ = some (.int .i64 a0_0) := (blk_cell BK129.out 0).trans rfl; have hcz17_1 : w16.cell? ⟨gb129, 1, none⟩ = some (.int .i64 a0_1) := (blk_cell BK129.out 1).trans rfl; have hcz17_2 : w16.cell? ⟨gb129, 2, none⟩ = some (.string a0_2) := (blk_cell BK129.out 2).trans rfl; have hfz17_0 := blk_frozen BK129.out 0; have hfz17_1 := blk_frozen BK129.out 1; have hfz17_2 := blk_frozen BK129.out 2))
        go_ret
        exact ⟨by first | rfl | (simp [errW_none, errW_some] <;> rfl) | (simp [*, errW_none, errW_some] <;> rfl), by repeat (first | (with_reducible first | exact HB.out | apply below_alloc | apply pw_below_drewN | apply below_drew1 | refine below_set ?_ GE129.out) | exact HB.out)⟩
      · rw [if_neg c15] at H
        have c15b0 : (a0_0 == 0) = false := beq_eq_false_iff_ne.mpr c15
        have c15b1 : (a0_0 != 0) = true := bne_iff_ne.mpr c15
        obtain rfl := Option.some.inj H
        go_enter Try.func19, Try.ntmps19
        go_wp2_with (first | ((with_reducible refine gate_dst (N := 1) rfl ?_); refine box_event ?hg (N := 1) ?hd (cs := #[.int .i64 a0_0, .int .i64 a0_1, .string a0_2]) (t := 47) ?hr ?_; (case hd => rfl); (case hg => rfl); (case hr => first | (go_simp; done) | (go_simp; rfl)); intro gb129 hg w18 hbox hb; have n0_ := Aside0.mk (below_step (by repeat (first | (with_reducible first | exact HB.out | apply below_alloc | apply pw_below_drewN | apply below_drew1) | exact HB.out)) hb); have n1_ := Aside0.mk (hbox); have n2_ := Aside0.mk ((by rw [hg]; exact (below_size (by repeat (first | (with_reducible first | exact HB.out | apply below_alloc | apply pw_below_drewN | apply below_drew1) | exact HB.out))) : w.heap.size ≤ gb129)); have n3_ := Aside0.mk ((by rw [hg]; exact (below_size (by repeat (first | (with_reducible first | exact HB.out | apply below_alloc | apply pw_below_drewN | apply below_drew1) | exact HB.out))) : w.heap.size ≤ gb129)); clear HB; have HB := n0_; have BK129 := n1_; have GW129 := n2_; have GE129 := n3_; clear n0_ n1_ n2_ n3_; clear hb hbox hg; have hcz19_0 : w18.cell? ⟨gb129, 0, none⟩ = some (.int .i64 a0_0) := (blk_cell BK129.out 0).trans rfl; have hcz19_1 : w18.cell? ⟨gb129, 1, none⟩ = some (.int .i64 a0_1) := (blk_cell BK129.out 1).trans rfl; have hcz19_2 : w18.cell? ⟨gb129, 2, none⟩ = some (.string a0_2) := (blk_cell BK129.out 2).trans rfl; have hfz19_0 := blk_frozen BK129.out 0; have hfz19_1 := blk_frozen BK129.out 1; have hfz19_2 := blk_frozen BK129.out 2))
        go_ret
        exact ⟨by first | rfl | (simp [errW_none, errW_some] <;> rfl) | (simp [*, errW_none, errW_some] <;> rfl), by repeat (first | (with_reducible first | exact HB.out | apply below_alloc | apply pw_below_drewN | apply below_drew1 | refine below_set ?_ GE129.out) | exact HB.out)⟩
    · rw [if_neg c14] at H
      have c14b0 : decide ((a0_2.size : Int) ≤ 128) = false := decide_eq_false c14
      have c14b1 : decide (a0_2.size ≤ 128) = false := decide_eq_false (by omega)
      clear c14
      obtain rfl := Option.some.inj H
      go_enter Try.func19, Try.ntmps19
      go_wp2_with (first | ((with_reducible refine gate_dst (N := 1) rfl ?_); refine box_event ?hg (N := 1) ?hd (cs := #[.int .i64 a0_0, .int .i64 a0_1, .string a0_2]) (t := 47) ?hr ?_; (case hd => rfl); (case hg => rfl); (case hr => first | (go_simp; done) | (go_simp; rfl)); intro gb129 hg w20 hbox hb; have n0_ := Aside0.mk (below_step (by repeat (first | (with_reducible first | exact HB.out | apply below_alloc | apply pw_below_drewN | apply below_drew1) | exact HB.out)) hb); have n1_ := Aside0.mk (hbox); have n2_ := Aside0.mk ((by rw [hg]; exact (below_size (by repeat (first | (with_reducible first | exact HB.out | apply below_alloc | apply pw_below_drewN | apply below_drew1) | exact HB.out))) : w.heap.size ≤ gb129)); have n3_ := Aside0.mk ((by rw [hg]; exact (below_size (by repeat (first | (with_reducible first | exact HB.out | apply below_alloc | apply pw_below_drewN | apply below_drew1) | exact HB.out))) : w.heap.size ≤ gb129)); clear HB; have HB := n0_; have BK129 := n1_; have GW129 := n2_; have GE129 := n3_; clear n0_ n1_ n2_ n3_; clear hb hbox hg; have hcz21_0 : w20.cell? ⟨gb129, 0, none⟩ = some (.int .i64 a0_0) := (blk_cell BK129.out 0).trans rfl; have hcz21_1 : w20.cell? ⟨gb129, 1, none⟩ = some (.int .i64 a0_1) := (blk_cell BK129.out 1).trans rfl; have hcz21_2 : w20.cell? ⟨gb129, 2, none⟩ = some (.string a0_2) := (blk_cell BK129.out 2).trans rfl; have hfz21_0 := blk_frozen BK129.out 0; have hfz21_1 := blk_frozen BK129.out 1; have hfz21_2 := blk_frozen BK129.out 2))
      go_ret
      exact ⟨by first | rfl | (simp [errW_none, errW_some] <;> rfl) | (simp [*, errW_none, errW_some] <;> rfl), by repeat (first | (with_reducible first | exact HB.out | apply below_alloc | apply pw_below_drewN | apply below_drew1 | refine below_set ?_ GE129.out) | exact HB.out)⟩

end Go.Proofs.Ytehbebpemnanoaa.F

-- F21
namespace Go.Proofs.Ytehbebpemnanoaa.F
open Go.RowKit Go.Proofs.YtehbebpemnanoaaW.PrintWords Go.Proofs.YtehbebpemnanoaaW.PrintLast Go.Proofs.YtehbebpemnanoaaW.PrintMore
attribute [local go_sem] max2_int min2_int max_two min_two max_three min_three max_four min_four   -- for this text's walks alone
set_option linter.unusedVariables false
set_option linter.unusedSimpArgs false

/-! ### strongroomref18_Right: function 21 -/
def strongroomref18_Right.f (a0_0 : Int) (a0_1 : Int) (a0_2 : ByteArray) : Option (Bool) := if a0_2.toList = ([] : List UInt8) then (if a0_1 ≥ 3 then (if a0_1 ≤ 130 then (if a0_0 ≥ 1 then (some (decide (a0_0 ≤ 65536))) else (some false)) else (some false)) else (some false)) else (if (a0_2.size : Int) ≤ 128 then (if a0_0 = 0 then (some (a0_1 == 0)) else (some false)) else (some false))
set_option maxHeartbeats 8000000 in
set_option maxRecDepth 100000 in
theorem strongroomref18_Right.calls (a0_0 : Int) (a0_1 : Int) (a0_2 : ByteArray) (r : Bool) (w : World) (h : strongroomref18_Right.f a0_0 a0_1 a0_2 = some r) :
    Calls Try.prog 21 #[.agg #[.int .i64 a0_0, .int .i64 a0_1, .string a0_2]] w fun e w' => e = .returned (.bool r) ∧ Below w.heap.size w w' := by
  have hu46 := Try.underlying46
  have HB := Aside0.mk (Below.refl w.heap.size w)
  have H : (if a0_2.toList = ([] : List UInt8) then (if a0_1 ≥ 3 then (if a0_1 ≤ 130 then (if a0_0 ≥ 1 then (some (decide (a0_0 ≤ 65536))) else (some false)) else (some false)) else (some false)) else (if (a0_2.size : Int) ≤ 128 then (if a0_0 = 0 then (some (a0_1 == 0)) else (some false)) else (some false))) = some r := h
  clear h
  by_cases c2 : a0_2.toList = ([] : List UInt8)
  · rw [if_pos c2] at H
    have c2b0 : (a0_2.toList == ([] : List UInt8)) = true := beq_iff_eq.mpr c2
    have c2b1 : (a0_2.toList != ([] : List UInt8)) = false := bne_eq_false_iff_eq.mpr c2
    clear c2
    by_cases c3 : a0_1 ≥ 3
    · rw [if_pos c3] at H
      have c3b0 : decide (3 ≤ a0_1) = true := decide_eq_true c3
      clear c3
      by_cases c4 : a0_1 ≤ 130
      · rw [if_pos c4] at H
        have c4b0 : decide (a0_1 ≤ 130) = true := decide_eq_true c4
        clear c4
        by_cases c5 : a0_0 ≥ 1
        · rw [if_pos c5] at H
          have c5b0 : decide (1 ≤ a0_0) = true := decide_eq_true c5
          clear c5
          obtain rfl := Option.some.inj H
          go_enter Try.func21, Try.ntmps21
          go_wp2_with (first | ((with_reducible refine gate_dst (N := 1) rfl ?_); refine box_event ?hg (N := 1) ?hd (cs := #[.int .i64 a0_0, .int .i64 a0_1, .string a0_2]) (t := 46) ?hr ?_; (case hd => rfl); (case hg => rfl); (case hr => first | (go_simp; done) | (go_simp; rfl)); intro gb171 hg w6 hbox hb; have n0_ := Aside0.mk (below_step (by repeat (first | (with_reducible first | exact HB.out | apply below_alloc | apply pw_below_drewN | apply below_drew1) | exact HB.out)) hb); have n1_ := Aside0.mk (hbox); have n2_ := Aside0.mk ((by rw [hg]; exact (below_size (by repeat (first | (with_reducible first | exact HB.out | apply below_alloc | apply pw_below_drewN | apply below_drew1) | exact HB.out))) : w.heap.size ≤ gb171)); have n3_ := Aside0.mk ((by rw [hg]; exact (below_size (by repeat (first | (with_reducible first | exact HB.out | apply below_alloc | apply pw_below_drewN | apply below_drew1) | exact HB.out))) : w.heap.size ≤ gb171)); clear HB; have HB := n0_; have BK171 := n1_; have GW171 := n2_; have GE171 := n3_; clear n0_ n1_ n2_ n3_; clear hb hbox hg; have hcz7_0 : w6.cell? ⟨gb171, 0, none⟩ = some (.int .i64 a0_0) := (blk_cell BK171.out 0).trans rfl; have hcz7_1 : w6.cell? ⟨gb171, 1, none⟩ = some (.int .i64 a0_1) := (blk_cell BK171.out 1).trans rfl; have hcz7_2 : w6.cell? ⟨gb171, 2, none⟩ = some (.string a0_2) := (blk_cell BK171.out 2).trans rfl; have hfz7_0 := blk_frozen BK171.out 0; have hfz7_1 := blk_frozen BK171.out 1; have hfz7_2 := blk_frozen BK171.out 2))
          go_ret
          exact ⟨by first | rfl | (simp [errW_none, errW_some] <;> rfl) | (simp [*, errW_none, errW_some] <;> rfl), by repeat (first | (with_reducible first | exact HB.out | apply below_alloc | apply pw_below_drewN | apply below_drew1 | refine below_set ?_ GE171.out) | exact HB.out)⟩
        · rw [if_neg c5] at H
          have c5b0 : decide (1 ≤ a0_0) = false := decide_eq_false c5
          clear c5
          obtain rfl := Option.some.inj H
          go_enter Try.func21, Try.ntmps21
          go_wp2_with (first | ((with_reducible refine gate_dst (N := 1) rfl ?_); refine box_event ?hg (N := 1) ?hd (cs := #[.int .i64 a0_0, .int .i64 a0_1, .string a0_2]) (t := 46) ?hr ?_; (case hd => rfl); (case hg => rfl); (case hr => first | (go_simp; done) | (go_simp; rfl)); intro gb171 hg w8 hbox hb; have n0_ := Aside0.mk (below_step (by repeat (first | (with_reducible first | exact HB.out | apply below_alloc | apply pw_below_drewN | apply below_drew1) | exact HB.out)) hb); have n1_ := Aside0.mk (hbox); have n2_ := Aside0.mk ((by rw [hg]; exact (below_size (by repeat (first | (with_reducible first | exact HB.out | apply below_alloc | apply pw_below_drewN | apply below_drew1) | exact HB.out))) : w.heap.size ≤ gb171)); have n3_ := Aside0.mk ((by rw [hg]; exact (below_size (by repeat (first | (with_reducible first | exact HB.out | apply below_alloc | apply pw_below_drewN | apply below_drew1) | exact HB.out))) : w.heap.size ≤ gb171)); clear HB; have HB := n0_; have BK171 := n1_; have GW171 := n2_; have GE171 := n3_; clear n0_ n1_ n2_ n3_; clear hb hbox hg; have hcz9_0 : w8.cell? ⟨gb171, 0, none⟩ = some (.int .i64 a0_0) := (blk_cell BK171.out 0).trans rfl; have hcz9_1 : w8.cell? ⟨gb171, 1, none⟩ = some (.int .i64 a0_1) := (blk_cell BK171.out 1).trans rfl; have hcz9_2 : w8.cell? ⟨gb171, 2, none⟩ = some (.string a0_2) := (blk_cell BK171.out 2).trans rfl; have hfz9_0 := blk_frozen BK171.out 0; have hfz9_1 := blk_frozen BK171.out 1; have hfz9_2 := blk_frozen BK171.out 2))
          go_ret
          exact ⟨by first | rfl | (simp [errW_none, errW_some] <;> rfl) | (simp [*, errW_none, errW_some] <;> rfl), by repeat (first | (with_reducible first | exact HB.out | apply below_alloc | apply pw_below_drewN | apply below_drew1 | refine below_set ?_ GE171.out) | exact HB.out)⟩
      · rw [if_neg c4] at H
        have c4b0 : decide (a0_1 ≤ 130) = false := decide_eq_false c4
        clear c4
        obtain rfl := Option.some.inj H
        go_enter Try.func21, Try.ntmps21
        go_wp2_with (first | ((with_reducible refine gate_dst (N := 1) rfl ?_); refine box_event ?hg (N := 1) ?hd (cs := #[.int .i64 a0_0, .int .i64 a0_1, .string a0_2]) (t := 46) ?hr ?_; (case hd => rfl); (case hg => rfl); (case hr => first | (go_simp; done) | (go_simp; rfl)); intro gb171 hg w10 hbox hb; have n0_ := Aside0.mk (below_step (by repeat (first | (with_reducible first | exact HB.out | apply below_alloc | apply pw_below_drewN | apply below_drew1) | exact HB.out)) hb); have n1_ := Aside0.mk (hbox); have n2_ := Aside0.mk ((by rw [hg]; exact (below_size (by repeat (first | (with_reducible first | exact HB.out | apply below_alloc | apply pw_below_drewN | apply below_drew1) | exact HB.out))) : w.heap.size ≤ gb171)); have n3_ := Aside0.mk ((by rw [hg]; exact (below_size (by repeat (first | (with_reducible first | exact HB.out | apply below_alloc | apply pw_below_drewN | apply below_drew1) | exact HB.out))) : w.heap.size ≤ gb171)); clear HB; have HB := n0_; have BK171 := n1_; have GW171 := n2_; have GE171 := n3_; clear n0_ n1_ n2_ n3_; clear hb hbox hg; have hcz11_0 : w10.cell? ⟨gb171, 0, none⟩ = some (.int .i64 a0_0) := (blk_cell BK171.out 0).trans rfl; have hcz11_1 : w10.cell? ⟨gb171, 1, none⟩ = some (.int .i64 a0_1) := (blk_cell BK171.out 1).trans rfl; have hcz11_2 : w10.cell? ⟨gb171, 2, none⟩ = some (.string a0_2) := (blk_cell BK171.out 2).trans rfl; have hfz11_0 := blk_frozen BK171.out 0; have hfz11_1 := blk_frozen BK171.out 1; have hfz11_2 := blk_frozen BK171.out 2))
        go_ret
        exact ⟨by first | rfl | (simp [errW_none, errW_some] <;> rfl) | (simp [*, errW_none, errW_some] <;> rfl), by repeat (first | (with_reducible first | exact HB.out | apply below_alloc | apply pw_below_drewN | apply below_drew1 | refine below_set ?_ GE171.out) | exact HB.out)⟩
    · rw [if_neg c3] at H
      have c3b0 : decide (3 ≤ a0_1) = false := decide_eq_false c3
      clear c3
      obtain rfl := Option.some.inj H
      go_enter Try.func21, Try.ntmps21
      go_wp2_with (first | ((with_reducible refine gate_dst (N := 1) rfl ?_); refine box_event ?hg (N := 1) ?hd (cs := #[.int .i64 a0_0, .int .i64 a0_1, .string a0_2]) (t := 46) ?hr ?_; (case hd => rfl); (case hg => rfl); (case hr => first | (go_simp; done) | (go_simp; rfl)); intro gb171 hg w12 hbox hb; have n0_ := Aside0.mk (below_step (by repeat (first | (with_reducible first | exact HB.out | apply below_alloc | apply pw_below_drewN | apply below_drew1) | exact HB.out)) hb); have n1_ := Aside0.mk (hbox); have n2_ := Aside0.mk ((by rw [hg]; exact (below_size (by repeat (first | (with_reducible first | exact HB.out | apply below_alloc | apply pw_below_drewN | apply below_drew1) | exact HB.out))) : w.heap.size ≤ gb171)); have n3_ := Aside0.mk ((by rw [hg]; exact (below_size (by repeat (first | (with_reducible first | exact HB.out | apply below_alloc | apply pw_below_drewN | apply below_drew1) | exact HB.out))) : w.heap.size ≤ gb171)); clear HB; have HB := n0_; have BK171 := n1_; have GW171 := n2_; have GE171 := n3_; clear n0_ n1_ n2_ n3_; clear hb hbox hg; have hcz13_0 : w12.cell? ⟨gb171, 0, none⟩ = some (.int .i64 a0_0) := (blk_cell BK171.out 0).trans rfl; have hcz13_1 : w12.cell? ⟨gb171, 1, none⟩ = some (.int .i64 a0_1) := (blk_cell BK171.out 1).trans rfl; have hcz13_2 : w12.cell? ⟨gb171, 2, none⟩ = some (.string a0_2) := (blk_cell BK171.out 2).trans rfl; have hfz13_0 := blk_frozen BK171.out 0; have hfz13_1 := blk_frozen BK171.out 1; have hfz13_2 := blk_frozen BK171.out 2))
      go_ret
      exact ⟨by first | rfl | (simp [errW_none, errW_some] <;> rfl) | (simp [*, errW_none, errW_some] <;> rfl), by repeat (first | (with_reducible first | exact HB.out | apply below_alloc | apply pw_below_drewN | apply below_drew1 | refine below_set ?_ GE171.out) | exact HB.out)⟩
  · rw [if_neg c2] at H
    have c2b0 : (a0_2.toList == ([] : List UInt8)) = false := beq_eq_false_iff_ne.mpr c2
    have c2b1 : (a0_2.toList != ([] : List UInt8)) = true := bne_iff_ne.mpr c2
    by_cases c14 : (a0_2.size : Int) ≤ 128
    · rw [if_pos c14] at H
      have c14b0 : decide ((a0_2.size : Int) ≤ 128) = true := decide_eq_true c14
      have c14b1 : decide (a0_2.size ≤ 128) = true := decide_eq_true (by omega)
      clear c14
      by_cases c15 : a0_0 = 0
      · rw [if_pos c15] at H
        have c15b0 : (a0_0 == 0) = true := beq_iff_eq.mpr c15
        have c15b1 : (a0_0 != 0) = false := bne_eq_false_iff_eq.mpr c15
        clear c15
        obtain rfl := Option.some.inj H
        go_enter Try.func21, Try.ntmps21
        go_wp2_with (first | ((with_reducible refine gate_dst (N := 1) rfl ?_); refine box_event ?hg (N := 1) ?hd (cs := #[.int .i64 a0_0, .int .i64 a0_1, .string a0_2]) (t := 46) ?hr ?_; (case hd => rfl); (case hg => rfl); (case hr => first | (go_simp; done) | (go_simp; rfl)); intro gb171 hg w16 hbox hb; have n0_ := Aside0.mk (below_step (by repeat (first | (with_reducible first | exact HB.out | apply below_alloc | apply pw_below_drewN | apply below_drew1) | exact HB.out)) hb); have n1_ := Aside0.mk (hbox); have n2_ := Aside0.mk ((by rw [hg]; exact (below_size (by repeat (first | (with_reducible first | exact HB.out | apply below_alloc | apply pw_below_drewN | apply below_drew1) | exact HB.out))) : w.heap.size ≤ gb171)); have n3_ := Aside0.mk ((by rw [hg]; exact (below_size (by repeat (first | (with_reducible first | exact HB.out | apply below_alloc | apply pw_below_drewN | apply below_drew1) | exact HB.out))) : w.heap.size ≤ gb171)); clear HB; have HB := n0_; have BK171 := n1_; have GW171 := n2_; have GE171 := n3_; clear n0_ n1_ n2_ n3_; clear hb hbox hg; have hcz17_0 : w16.cell? ⟨gb171, 0, none⟩ = some (.int .i64 a0_0) := (blk_cell BK171.out 0).trans rfl; have hcz17_1 : w16.cell? ⟨gb171, 1, none⟩ = some (.int .i64 a0_1) := (blk_cell BK171.out 1).trans rfl; have hcz17_2 : w16.cell? ⟨gb171, 2, none⟩ = some (.string a0_2) := (blk_cell BK171.out 2).trans rfl; have hfz17_0 := blk_frozen BK171.out 0; have hfz17_1 := blk_frozen BK171.out 1; have hfz17_2 := blk_frozen BK171.out 2))
        go_ret
        exact ⟨by first | rfl | (simp [errW_none, errW_some] <;> rfl) | (simp [*, errW_none, errW_some] <;> rfl), by repeat (first | (with_reducible first | exact HB.out | apply below_alloc | apply pw_below_drewN | apply below_drew1 | refine below_set ?_ GE171.out) | exact HB.out)⟩
      · rw [if_neg c15] at H
        have c15b0 : (a0_0 == 0) = false := beq_eq_false_iff_ne.mpr c15
        have c15b1 : (a0_0 != 0) = true := bne_iff_ne.mpr c15
        obtain rfl := Option.some.inj H
        go_enter Try.func21, Try.ntmps21
        go_wp2_with (first | ((with_reducible refine gate_dst (N := 1) rfl ?_); refine box_event ?hg (N := 1) ?hd (cs := #[.int .i64 a0_0, .int .i64 a0_1, .string a0_2]) (t := 46) ?hr ?_; (case hd => rfl); (case hg => rfl); (case hr => first | (go_simp; done) | (go_simp; rfl)); intro gb171 hg w18 hbox hb; have n0_ := Aside0.mk (below_step (by repeat (first | (with_reducible first | exact HB.out | apply below_alloc | apply pw_below_drewN | apply below_drew1) | exact HB.out)) hb); have n1_ := Aside0.mk (hbox); have n2_ := Aside0.mk ((by rw [hg]; exact (below_size (by repeat (first | (with_reducible first | exact HB.out | apply below_alloc | apply pw_below_drewN | apply below_drew1) | exact HB.out))) : w.heap.size ≤ gb171)); have n3_ := Aside0.mk ((by rw [hg]; exact (below_size (by repeat (first | (with_reducible first | exact HB.out | apply below_alloc | apply pw_below_drewN | apply below_drew1) | exact HB.out))) : w.heap.size ≤ gb171)); clear HB; have HB := n0_; have BK171 := n1_; have GW171 := n2_; have GE171 := n3_; clear n0_ n1_ n2_ n3_; clear hb hbox hg; have hcz19_0 : w18.cell? ⟨gb171, 0, none⟩ = some (.int .i64 a0_0) := (blk_cell BK171.out 0).trans rfl; have hcz19_1 : w18.cell? ⟨gb171, 1, none⟩ = some (.int .i64 a0_1) := (blk_cell BK171.out 1).trans rfl; have hcz19_2 : w18.cell? ⟨gb171, 2, none⟩ = some (.string a0_2) := (blk_cell BK171.out 2).trans rfl; have hfz19_0 := blk_frozen BK171.out 0; have hfz19_1 := blk_frozen BK171.out 1; have hfz19_2 := blk_frozen BK171.out 2))
        go_ret
        exact ⟨by first | rfl | (simp [errW_none, errW_some] <;> rfl) | (simp [*, errW_none, errW_some] <;> rfl), by repeat (first | (with_reducible first | exact HB.out | apply below_alloc | apply pw_below_drewN | apply below_drew1 | refine below_set ?_ GE171.out) | exact HB.out)⟩
    · rw [if_neg c14] at H
      have c14b0 : decide ((a0_2.size : Int) ≤ 128) = false := decide_eq_false c14
      have c14b1 : decide (a0_2.size ≤ 128) = false := decide_eq_false (by omega)
      clear c14
      obtain rfl := Option.some.inj H
      go_enter Try.func21, Try.ntmps21
      go_wp2_with (first | ((with_reducible refine gate_dst (N := 1) rfl ?_); refine box_event ?hg (N := 1) ?hd (cs := #[.int .i64 a0_0, .int .i64 a0_1, .string a0_2]) (t := 46) ?hr ?_; (case hd => rfl); (case hg => rfl); (case hr => first | (go_simp; done) | (go_simp; rfl)); intro gb171 hg w20 hbox hb; have n0_ := Aside0.mk (below_step (by repeat (first | (with_reducible first | exact HB.out | apply below_alloc | apply pw_below_drewN | apply below_drew1) | exact HB.out)) hb); have n1_ := Aside0.mk (hbox); have n2_ := Aside0.mk ((by rw [hg]; exact (below_size (by repeat (first | (with_reducible first | exact HB.out | apply below_alloc | apply pw_below_drewN | apply below_drew1) | exact HB.out))) : w.heap.size ≤ gb171)); have n3_ := Aside0.mk ((by rw [hg]; exact (below_size (by repeat (first | (with_reducible first | exact HB.out | apply below_alloc | apply pw_below_drewN | apply below_drew1) | exact HB.out))) : w.heap.size ≤ gb171)); clear HB; have HB := n0_; have BK171 := n1_; have GW171 := n2_; have GE171 := n3_; clear n0_ n1_ n2_ n3_; clear hb hbox hg; have hcz21_0 : w20.cell? ⟨gb171, 0, none⟩ = some (.int .i64 a0_0) := (blk_cell BK171.out 0).trans rfl; have hcz21_1 : w20.cell? ⟨gb171, 1, none⟩ = some (.int .i64 a0_1) := (blk_cell BK171.out 1).trans rfl; have hcz21_2 : w20.cell? ⟨gb171, 2, none⟩ = some (.string a0_2) := (blk_cell BK171.out 2).trans rfl; have hfz21_0 := blk_frozen BK171.out 0; have hfz21_1 := blk_frozen BK171.out 1; have hfz21_2 := blk_frozen BK171.out 2))
      go_ret
      exact ⟨by first | rfl | (simp [errW_none, errW_some] <;> rfl) | (simp [*, errW_none, errW_some] <;> rfl), by repeat (first | (with_reducible first | exact HB.out | apply below_alloc | apply pw_below_drewN | apply below_drew1 | refine below_set ?_ GE171.out) | exact HB.out)⟩

end Go.Proofs.Ytehbebpemnanoaa.F

-- F18
namespace Go.Proofs.Ytehbebpemnanoaa.F
open Go.RowKit Go.Proofs.YtehbebpemnanoaaW.PrintWords Go.Proofs.YtehbebpemnanoaaW.PrintLast Go.Proofs.YtehbebpemnanoaaW.PrintMore
attribute [local go_sem] max2_int min2_int max_two min_two max_three min_three max_four min_four   -- for this text's walks alone
set_option linter.unusedVariables false
set_option linter.unusedSimpArgs false

/-! ### lz_Size: function 18 -/
def lz_Size.f (k : Nat) (l0 : List Int) : Option (Int × Int) := (num_Get.f k l0 0).bind fun bt103 => (if bt103.2.2 = 0 then (if bt103.1 > 65536 then (some (0, 4)) else (some (wrap64 (bt103.1), 0))) else (some (0, 4)))
theorem lz_Size.mono : ∀ a0 k, LeO (lz_Size.f k a0) (lz_Size.f (k + 1) a0) := by
  intro a0 k
  unfold lz_Size.f
  repeat' first
      | (with_reducible exact num_Get.mono _ _ _)
      | (with_reducible exact LeO.refl _)
      | (with_reducible exact LeO.none _)
      | (with_reducible refine LeO.ite ?_ ?_)
      | (with_reducible refine LeO.bind ?_ (fun _ => ?_))
      | exact num_Get.mono _ _ _
      | exact LeO.none _
      | refine LeO.ite ?_ ?_
      | refine LeO.bind ?_ (fun _ => ?_)
set_option maxHeartbeats 8000000 in
set_option maxRecDepth 100000 in
theorem lz_Size.calls (k : Nat) (A0 : Option Addr) (c0 : Nat) (l0 : List Int) (r1 : Int) (r2 : Int) (w : World) (hr0 : Kd.C (Kd.int .u8) w A0 l0.length l0) (hc0 : l0.length ≤ c0) (h : lz_Size.f k l0 = some (r1, r2)) :
    Calls Try.prog 18 #[.slice A0 l0.length c0] w fun e w' => e = .returned (.tuple #[.int .i64 r1, .int .i64 r2]) ∧ Drawn0 w w' := by
  have HR0 := Aside0.mk hr0
  have HC0 := Aside0.mk hc0
  clear hr0 hc0
  have H : ((num_Get.f k l0 0).bind fun bt103 => (if bt103.2.2 = 0 then (if bt103.1 > 65536 then (some (0, 4)) else (some (wrap64 (bt103.1), 0))) else (some (0, 4)))) = some (r1, r2) := h
  clear h
  replace H := Option.bind_eq_some_iff.mp H
  obtain ⟨⟨t103, t104, t105⟩, A20, H⟩ := H
  replace H : (if t105 = 0 then (if t103 > 65536 then (some (0, 4)) else (some (wrap64 (t103), 0))) else (some (0, 4))) = some (r1, r2) := H
  have A2 := Aside0.mk A20
  clear A20
  by_cases c3 : t105 = 0
  · rw [if_pos c3] at H
    have c3b0 : (t105 == 0) = true := beq_iff_eq.mpr c3
    have c3b1 : (t105 != 0) = false := bne_eq_false_iff_eq.mpr c3
    clear c3
    by_cases c4 : t103 > 65536
    · rw [if_pos c4] at H
      have c4b0 : decide (65536 < t103) = true := decide_eq_true c4
      clear c4
      simp only [Option.some.injEq, Prod.mk.injEq] at H
      obtain ⟨rfl, rfl⟩ := H
      go_enter Try.func18, Try.ntmps18
      go_wp2_with (first | ((with_reducible refine gate_callee (f := 26) rfl ?_); refine goesL_ (some 9) rfl rfl Try.func26 (by kernel_rfl) rfl #[.slice A0 l0.length c0, .int .i64 0] rfl (by (try simp only [List.map_toArray, List.map_cons, List.map_nil]); first | done | rfl | (simp only [List.length_drop, List.length_take]; rfl)) ?_; (with_reducible refine (num_Get.calls k _ _ l0 0 t103 t104 t105 _ ?side1 ?side2 A2.out).mono ?_); (case side1 => repeat (first | exact HR0.out | (with_reducible refine Kd.C_alloc ?_ _) | (with_reducible refine Kd.C_drewN ?_ _) | (with_reducible refine Kd.C_drew ?_))); (case side2 => exact HC0.out); rintro e w' ⟨rfl, ⟨nd, rfl⟩⟩; refine ⟨_, rfl, ?_⟩))
      go_ret2
      exact ⟨by first | rfl | (simp; done) | (simp [*]; done), by repeat (first | exact Drawn0.refl _ | apply Drawn0.step)⟩
    · rw [if_neg c4] at H
      have c4b0 : decide (65536 < t103) = false := decide_eq_false c4
      clear c4
      simp only [Option.some.injEq, Prod.mk.injEq] at H
      obtain ⟨rfl, rfl⟩ := H
      go_enter Try.func18, Try.ntmps18
      go_wp2_with (first | ((with_reducible refine gate_callee (f := 26) rfl ?_); refine goesL_ (some 9) rfl rfl Try.func26 (by kernel_rfl) rfl #[.slice A0 l0.length c0, .int .i64 0] rfl (by (try simp only [List.map_toArray, List.map_cons, List.map_nil]); first | done | rfl | (simp only [List.length_drop, List.length_take]; rfl)) ?_; (with_reducible refine (num_Get.calls k _ _ l0 0 t103 t104 t105 _ ?side1 ?side2 A2.out).mono ?_); (case side1 => repeat (first | exact HR0.out | (with_reducible refine Kd.C_alloc ?_ _) | (with_reducible refine Kd.C_drewN ?_ _) | (with_reducible refine Kd.C_drew ?_))); (case side2 => exact HC0.out); rintro e w' ⟨rfl, ⟨nd, rfl⟩⟩; refine ⟨_, rfl, ?_⟩))
      go_ret2
      exact ⟨by first | rfl | (simp; done) | (simp [*]; done), by repeat (first | exact Drawn0.refl _ | apply Drawn0.step)⟩
  · rw [if_neg c3] at H
    have c3b0 : (t105 == 0) = false := beq_eq_false_iff_ne.mpr c3
    have c3b1 : (t105 != 0) = true := bne_iff_ne.mpr c3
    simp only [Option.some.injEq, Prod.mk.injEq] at H
    obtain ⟨rfl, rfl⟩ := H
    go_enter Try.func18, Try.ntmps18
    go_wp2_with (first | ((with_reducible refine gate_callee (f := 26) rfl ?_); refine goesL_ (some 9) rfl rfl Try.func26 (by kernel_rfl) rfl #[.slice A0 l0.length c0, .int .i64 0] rfl (by (try simp only [List.map_toArray, List.map_cons, List.map_nil]); first | done | rfl | (simp only [List.length_drop, List.length_take]; rfl)) ?_; (with_reducible refine (num_Get.calls k _ _ l0 0 t103 t104 t105 _ ?side1 ?side2 A2.out).mono ?_); (case side1 => repeat (first | exact HR0.out | (with_reducible refine Kd.C_alloc ?_ _) | (with_reducible refine Kd.C_drewN ?_ _) | (with_reducible refine Kd.C_drew ?_))); (case side2 => exact HC0.out); rintro e w' ⟨rfl, ⟨nd, rfl⟩⟩; refine ⟨_, rfl, ?_⟩))
    go_ret2
    exact ⟨by first | rfl | (simp; done) | (simp [*]; done), by repeat (first | exact Drawn0.refl _ | apply Drawn0.step)⟩

end Go.Proofs.Ytehbebpemnanoaa.F

-- F11
namespace Go.Proofs.Ytehbebpemnanoaa.F
open Go.RowKit Go.Proofs.YtehbebpemnanoaaW.PrintWords Go.Proofs.YtehbebpemnanoaaW.PrintLast Go.Proofs.YtehbebpemnanoaaW.PrintMore
attribute [local go_sem] max2_int min2_int max_two min_two max_three min_three max_four min_four   -- for this text's walks alone
set_option linter.unusedVariables false
set_option linter.unusedSimpArgs false

/-! ### strongroomlaw18_mine: function 11 -/
def strongroomlaw18_mine.l0 : Nat → List (S46) → List (S47) → Int → Option ((List (S47)))
  | 0, _, _, _ => none
  | k + 1, x0, x3, x4 => if x4 < (x0.length : Int) then (if 0 ≤ x4 then (if x3.length < 4398046511104 then (strongroomlaw18_mine.l0 k x0 (x3 ++ [(⟨(rd_T46 x0 x4).f0, (rd_T46 x0 x4).f1, (rd_T46 x0 x4).f2⟩ : S47)]) (wrap64 (x4 + 1))) else (none)) else (none)) else (some x3)
def strongroomlaw18_mine.f (k : Nat) (l0 : List (S46)) : Option ((List (S47))) := strongroomlaw18_mine.l0 k l0 ([] : List (S47)) 0
theorem strongroomlaw18_mine.mono_l : ∀ k, (∀ y0 y1 y2, LeO (strongroomlaw18_mine.l0 k y0 y1 y2) (strongroomlaw18_mine.l0 (k + 1) y0 y1 y2))
  | 0 => fun _ _ _ r h => by simp [strongroomlaw18_mine.l0] at h
  | k + 1 => by
    have ih0 := strongroomlaw18_mine.mono_l k
    · intro y0 y1 y2
      unfold strongroomlaw18_mine.l0
      repeat' first
      | (with_reducible exact ih0 _ _ _)
      | (with_reducible exact LeO.refl _)
      | (with_reducible exact LeO.none _)
      | (with_reducible refine LeO.ite ?_ ?_)
      | (with_reducible refine LeO.bind ?_ (fun _ => ?_))
      | exact ih0 _ _ _
      | exact LeO.none _
      | refine LeO.ite ?_ ?_
      | refine LeO.bind ?_ (fun _ => ?_)
theorem strongroomlaw18_mine.mono : ∀ a0 k, LeO (strongroomlaw18_mine.f k a0) (strongroomlaw18_mine.f (k + 1) a0) := by
  intro a0 k
  have ih0 := strongroomlaw18_mine.mono_l k
  unfold strongroomlaw18_mine.f
  repeat' first
      | (with_reducible exact ih0 _ _ _)
      | (with_reducible exact LeO.refl _)
      | (with_reducible exact LeO.none _)
      | (with_reducible refine LeO.ite ?_ ?_)
      | (with_reducible refine LeO.bind ?_ (fun _ => ?_))
      | exact ih0 _ _ _
      | exact LeO.none _
      | refine LeO.ite ?_ ?_
      | refine LeO.bind ?_ (fun _ => ?_)
def strongroomlaw18_mine.T5 : Bool × List (List Nat × List Nat) := (true, [([], []), ([], []), ([], []), ([1, 2], [1, 2]), ([3], [3]), ([4], [4]), ([], []), ([], []), ([6, 7], [6, 7]), ([8], [8]), ([9], [9]), ([], []), ([], []), ([11, 12], [11, 12]), ([13], [13]), ([14], [14]), ([5, 10, 15], [5, 10, 15]), ([16], [16]), ([0, 17], [0, 17]), ([18, 18, 0, 1, 2, 3, 4, 5, 6, 7, 8, 9, 10, 11, 12, 13, 14, 15, 16, 17, 18], [0, 18])])
def strongroomlaw18_mine.B5 : List Nat := [0, 0, 0, 6, 14, 30, 0, 0, 192, 448, 960, 0, 0, 6144, 14336, 30720, 65534, 131070, 262143, 524287]
theorem strongroomlaw18_mine.tab5 : rtab .any (opsOf Try.f11 5) = strongroomlaw18_mine.T5 := by kernel_rfl
theorem strongroomlaw18_mine.bits5 : waitsOk strongroomlaw18_mine.T5.2 strongroomlaw18_mine.B5 = true := by kernel_rfl
set_option maxHeartbeats 8000000 in
set_option maxRecDepth 100000 in
theorem strongroomlaw18_mine.calls (k : Nat) (A0 : Option Addr) (c0 : Nat) (l0 : List (S46)) (r : List (S47)) (w : World) (hr0 : Kd.C k46 w A0 l0.length l0) (hc0 : l0.length ≤ c0) (h : strongroomlaw18_mine.f k l0 = some r) :
    Calls Try.prog 11 #[.slice A0 l0.length c0] w fun e w' => ∃ v0_ : Value, e = .returned (v0_) ∧ Kd.R k47 47 w' w.heap.size (fun _ => True) v0_ r ∧ Below w.heap.size w w' := by
  have hu47 := Try.underlying47
  have HR0 := Aside0.mk hr0
  have HC0 := Aside0.mk hc0
  clear hr0 hc0
  have HB := Aside0.mk (Below.refl w.heap.size w)
  have H : (strongroomlaw18_mine.l0 k l0 ([] : List (S47)) 0) = some r := h
  clear h
  have H' := Aside0.mk H
  clear H
  go_enter Try.func11, Try.ntmps11
  go_wp2
  go_loopg [3, 4] k (fun kq v3 v4 w' => ∃ (x3_1 : List (S47)) (x4_1 : Int), v4 = .int .i64 x4_1 ∧ Aside0 (strongroomlaw18_mine.l0 kq l0 x3_1 x4_1 = some r) ∧ Aside0 (kq ≤ k) ∧ Aside0 (Kd.R k47 47 w' w.heap.size (fun _ => True) v3 x3_1) ∧ Aside0 (Below w.heap.size w w'))
  case atStart => exact ⟨(([] : List (S47))), (0), (by first | rfl | (simp; done) | (simp [*]; done)), H', ⟨Nat.le_refl _⟩, ⟨by first | exact Kd.R_nil _ _ _ _ _ | exact Kd.N_nil _ _ _ _ _ | exact Kd.V_nil _ _ _ _ _ | exact Kd.Q_nil _ _ _ _ _ | exact Kd.S_nil _ _ _ _ _⟩, ⟨by repeat (first | (with_reducible first | exact HB.out | apply below_alloc | apply pw_below_drewN | apply below_drew1) | exact HB.out)⟩⟩
  case round =>
    clear H'
    try clear c1
    obtain ⟨x3_1, x4_1, rfl, HA, HK1, HO_3, HB⟩ := hrel
    cases gk with
    | zero => exact absurd HA.out (by simp [strongroomlaw18_mine.l0])
    | succ k1 =>
      have H := HA.out
      clear HA
      simp only [strongroomlaw18_mine.l0] at H
      by_cases c2 : x4_1 < (l0.length : Int)
      · rw [if_pos c2] at H
        have c2b0 : decide (x4_1 < (l0.length : Int)) = true := decide_eq_true c2
        clear c2
        by_cases c3 : 0 ≤ x4_1
        · rw [if_pos c3] at H
          have c3b0 : decide (0 ≤ x4_1) = true := decide_eq_true c3
          clear c3
          by_cases c4 : x3_1.length < 4398046511104
          · rw [if_pos c4] at H
            have LMc4 := Aside0.mk c4
            clear c4
            obtain ⟨y168, hy168⟩ : ∃ y_ : List (S47), y_ = (x3_1 ++ [(⟨(rd_T46 l0 x4_1).f0, (rd_T46 l0 x4_1).f1, (rd_T46 l0 x4_1).f2⟩ : S47)]) := ⟨_, rfl⟩
            replace H : (strongroomlaw18_mine.l0 k1 l0 y168 (wrap64 (x4_1 + 1))) = some r := by first | (rw [hy168]; with_reducible exact H) | (have H2_ := (Option.bind_some _ _).symm.trans H; rw [hy168]; with_reducible exact H2_) | (have H2_ := (Option.bind_some _ _).symm.trans H; with_reducible exact H2_) | with_reducible exact H | (rw [hy168]; exact H) | exact H
            have Ny168 := Aside0.mk hy168
            clear hy168
            have H' := Aside0.mk H
            clear H
            try go_wp2
            have n0_ := Aside0.mk (Kd.R_drew HO_3.out)
            have n1_ := Aside0.mk (below_drew1 HB.out)
            clear HO_3
            clear HB
            have HO_3 := n0_
            have HB := n1_
            clear n0_ n1_
            have p165 : 0 ≤ (x4_1 : Int) := of_decide_eq_true (by first | (with_reducible assumption) | assumption)
            have q165 : x4_1 < (l0.length : Int) := of_decide_eq_true (by first | (with_reducible assumption) | assumption)
            obtain ⟨ad165, e165, hx165_0, hx165_1, hx165_2⟩ := at_T46 HR0.out x4_1 p165 q165
            have hw165_2 := hx165_2
            have hw165_1 := hx165_1
            have hw165_0 := hx165_0
            cases e165
            replace hx165_0 := (HB.out.cell (World.block_lt_of_cell? w _ hx165_0)).trans hx165_0
            replace hx165_1 := (HB.out.cell (World.block_lt_of_cell? w _ hx165_1)).trans hx165_1
            replace hx165_2 := (HB.out.cell (World.block_lt_of_cell? w _ hx165_2)).trans hx165_2
            replace p165 := eq_true p165
            replace q165 := eq_true q165
            have p166 : 0 ≤ (x4_1 : Int) := of_decide_eq_true (by first | (with_reducible assumption) | assumption)
            have q166 : x4_1 < (l0.length : Int) := of_decide_eq_true (by first | (with_reducible assumption) | assumption)
            obtain ⟨ad166, e166, hx166_0, hx166_1, hx166_2⟩ := at_T46 HR0.out x4_1 p166 q166
            have hw166_2 := hx166_2
            have hw166_1 := hx166_1
            have hw166_0 := hx166_0
            obtain rfl : ad165 = ad166 := (by injection e166)
            replace hx166_0 := (HB.out.cell (World.block_lt_of_cell? w _ hx166_0)).trans hx166_0
            replace hx166_1 := (HB.out.cell (World.block_lt_of_cell? w _ hx166_1)).trans hx166_1
            replace hx166_2 := (HB.out.cell (World.block_lt_of_cell? w _ hx166_2)).trans hx166_2
            replace p166 := eq_true p166
            replace q166 := eq_true q166
            have p167 : 0 ≤ (x4_1 : Int) := of_decide_eq_true (by first | (with_reducible assumption) | assumption)
            have q167 : x4_1 < (l0.length : Int) := of_decide_eq_true (by first | (with_reducible assumption) | assumption)
            obtain ⟨ad167, e167, hx167_0, hx167_1, hx167_2⟩ := at_T46 HR0.out x4_1 p167 q167
            have hw167_2 := hx167_2
            have hw167_1 := hx167_1
            have hw167_0 := hx167_0
            obtain rfl : ad165 = ad167 := (by injection e167)
            replace hx167_0 := (HB.out.cell (World.block_lt_of_cell? w _ hx167_0)).trans hx167_0
            replace hx167_1 := (HB.out.cell (World.block_lt_of_cell? w _ hx167_1)).trans hx167_1
            replace hx167_2 := (HB.out.cell (World.block_lt_of_cell? w _ hx167_2)).trans hx167_2
            replace p167 := eq_true p167
            replace q167 := eq_true q167
            refine start_ (n := 20) (S := fun w' => w'.cell? (ad165.add ((x4_1).toNat * 3)) = some (.int .i64 ((rd_T46 l0 x4_1).f0)) ∧ w'.cell? ⟨(ad165.add ((x4_1).toNat * 3)).block, (ad165.add ((x4_1).toNat * 3)).off + 1, none⟩ = some (.int .i64 ((rd_T46 l0 x4_1).f1)) ∧ w'.cell? ⟨(ad165.add ((x4_1).toNat * 3)).block, (ad165.add ((x4_1).toNat * 3)).off + 2, none⟩ = some (.string ((rd_T46 l0 x4_1).f2)) ∧ w'.cell? (ad165.add ((x4_1).toNat * 3)) = some (.int .i64 ((rd_T46 l0 x4_1).f0)) ∧ w'.cell? ⟨(ad165.add ((x4_1).toNat * 3)).block, (ad165.add ((x4_1).toNat * 3)).off + 1, none⟩ = some (.int .i64 ((rd_T46 l0 x4_1).f1)) ∧ w'.cell? ⟨(ad165.add ((x4_1).toNat * 3)).block, (ad165.add ((x4_1).toNat * 3)).off + 2, none⟩ = some (.string ((rd_T46 l0 x4_1).f2)) ∧ w'.cell? (ad165.add ((x4_1).toNat * 3)) = some (.int .i64 ((rd_T46 l0 x4_1).f0)) ∧ w'.cell? ⟨(ad165.add ((x4_1).toNat * 3)).block, (ad165.add ((x4_1).toNat * 3)).off + 1, none⟩ = some (.int .i64 ((rd_T46 l0 x4_1).f1)) ∧ w'.cell? ⟨(ad165.add ((x4_1).toNat * 3)).block, (ad165.add ((x4_1).toNat * 3)).off + 2, none⟩ = some (.string ((rd_T46 l0 x4_1).f2))) (ds := []) #[false, false, false, false, false, false, false, false, false, false, false, false, false, false, false, false, false, false, false, false] (by kernel_rfl) rfl rfl ⟨((HB.out.cell (World.block_lt_of_cell? w _ hw165_0)).trans hw165_0), ((HB.out.cell (World.block_lt_of_cell? w _ hw165_1)).trans hw165_1), ((HB.out.cell (World.block_lt_of_cell? w _ hw165_2)).trans hw165_2), ((HB.out.cell (World.block_lt_of_cell? w _ hw166_0)).trans hw166_0), ((HB.out.cell (World.block_lt_of_cell? w _ hw166_1)).trans hw166_1), ((HB.out.cell (World.block_lt_of_cell? w _ hw166_2)).trans hw166_2), ((HB.out.cell (World.block_lt_of_cell? w _ hw167_0)).trans hw167_0), ((HB.out.cell (World.block_lt_of_cell? w _ hw167_1)).trans hw167_1), ((HB.out.cell (World.block_lt_of_cell? w _ hw167_2)).trans hw167_2)⟩ (fun hHeld => ?_); refine with_tabW strongroomlaw18_mine.tab5 strongroomlaw18_mine.bits5 (fun HT_ HW_ => ?_)
            generalize wr.drew = w5 at HO_3 HB hx165_0 hx165_1 hx165_2 hx166_0 hx166_1 hx166_2 hx167_0 hx167_1 hx167_2 hHeld ⊢
            refine pure_ (i := 0) (N := some 11) (v := ?_) (a' := ?_) #[true, false, false, false, false, false, false, false, false, false, false, false, false, false, false, false, false, false, false, false] rfl rfl (any_of HT_.out (by kernel_rfl)) (fun _ _ _ h => h) (Or.inl ⟨by rfl, ?_⟩) ?_ ?_
            rotate_left
            · intro w'
              go_simp
              with_reducible rfl
            rotate_left
            · simp only [Act.put, List.setIfInBounds_toArray, List.set_cons_zero, List.set_cons_succ, i64_w, i32_w]
              rfl
            refine pure_ (i := 1) (N := some 12) (v := ?_) (a' := ?_) #[true, true, false, false, false, false, false, false, false, false, false, false, false, false, false, false, false, false, false, false] rfl rfl (any_of HT_.out (by kernel_rfl)) (fun _ _ _ h => h) (Or.inl ⟨by rfl, ?_⟩) ?_ ?_
            rotate_left
            · intro w'
              go_simp
              with_reducible rfl
            rotate_left
            · simp only [Act.put, List.setIfInBounds_toArray, List.set_cons_zero, List.set_cons_succ, i64_w, i32_w]
              rfl
            refine pure_ (i := 2) (N := some 13) (v := ?_) (a' := ?_) #[true, true, true, false, false, false, false, false, false, false, false, false, false, false, false, false, false, false, false, false] rfl rfl (any_of HT_.out (by kernel_rfl)) (fun _ _ _ h => h) (Or.inl ⟨by rfl, ?_⟩) ?_ ?_
            rotate_left
            · intro w'
              go_simp
              with_reducible rfl
            rotate_left
            · simp only [Act.put, List.setIfInBounds_toArray, List.set_cons_zero, List.set_cons_succ, i64_w, i32_w]
              rfl
            refine pure_ (i := 3) (N := some 14) (v := ?_) (a' := ?_) #[true, true, true, true, false, false, false, false, false, false, false, false, false, false, false, false, false, false, false, false] rfl rfl (any_of HT_.out (by kernel_rfl)) (fun _ _ _ h => h) (Or.inl ⟨by rfl, ?_⟩) ?_ ?_
            rotate_left
            · intro w'
              go_simp
              with_reducible rfl
            rotate_left
            · simp only [Act.put, List.setIfInBounds_toArray, List.set_cons_zero, List.set_cons_succ, i64_w, i32_w]
              rfl
            refine pure_ (i := 4) (N := some 15) (v := ?_) (a' := ?_) #[true, true, true, true, true, false, false, false, false, false, false, false, false, false, false, false, false, false, false, false] rfl rfl (any_of HT_.out (by kernel_rfl)) (fun _ _ _ h => h) (Or.inl ⟨by rfl, ?_⟩) ?_ ?_
            rotate_left
            · intro w'
              go_simp
              with_reducible rfl
            rotate_left
            · simp only [Act.put, List.setIfInBounds_toArray, List.set_cons_zero, List.set_cons_succ, i64_w, i32_w]
              rfl
            refine pure_ (i := 6) (N := some 17) (v := ?_) (a' := ?_) #[true, true, true, true, true, false, true, false, false, false, false, false, false, false, false, false, false, false, false, false] rfl rfl (any_of HT_.out (by kernel_rfl)) (fun _ _ _ h => h) (Or.inl ⟨by rfl, ?_⟩) ?_ ?_
            rotate_left
            · intro w'
              go_simp
              with_reducible rfl
            rotate_left
            · simp only [Act.put, List.setIfInBounds_toArray, List.set_cons_zero, List.set_cons_succ, i64_w, i32_w]
              rfl
            refine pure_ (i := 7) (N := some 18) (v := ?_) (a' := ?_) #[true, true, true, true, true, false, true, true, false, false, false, false, false, false, false, false, false, false, false, false] rfl rfl (any_of HT_.out (by kernel_rfl)) (fun _ _ _ h => h) (Or.inl ⟨by rfl, ?_⟩) ?_ ?_
            rotate_left
            · intro w'
              go_simp
              with_reducible rfl
            rotate_left
            · simp only [Act.put, List.setIfInBounds_toArray, List.set_cons_zero, List.set_cons_succ, i64_w, i32_w]
              rfl
            refine pure_ (i := 8) (N := some 19) (v := ?_) (a' := ?_) #[true, true, true, true, true, false, true, true, true, false, false, false, false, false, false, false, false, false, false, false] rfl rfl (any_of HT_.out (by kernel_rfl)) (fun _ _ _ h => h) (Or.inl ⟨by rfl, ?_⟩) ?_ ?_
            rotate_left
            · intro w'
              go_simp
              with_reducible rfl
            rotate_left
            · simp only [Act.put, List.setIfInBounds_toArray, List.set_cons_zero, List.set_cons_succ, i64_w, i32_w]
              rfl
            refine pure_ (i := 9) (N := some 20) (v := ?_) (a' := ?_) #[true, true, true, true, true, false, true, true, true, true, false, false, false, false, false, false, false, false, false, false] rfl rfl (any_of HT_.out (by kernel_rfl)) (fun _ _ _ h => h) (Or.inl ⟨by rfl, ?_⟩) ?_ ?_
            rotate_left
            · intro w'
              go_simp
              with_reducible rfl
            rotate_left
            · simp only [Act.put, List.setIfInBounds_toArray, List.set_cons_zero, List.set_cons_succ, i64_w, i32_w]
              rfl
            refine pure_ (i := 11) (N := some 22) (v := ?_) (a' := ?_) #[true, true, true, true, true, false, true, true, true, true, false, true, false, false, false, false, false, false, false, false] rfl rfl (any_of HT_.out (by kernel_rfl)) (fun _ _ _ h => h) (Or.inl ⟨by rfl, ?_⟩) ?_ ?_
            rotate_left
            · intro w'
              go_simp
              with_reducible rfl
            rotate_left
            · simp only [Act.put, List.setIfInBounds_toArray, List.set_cons_zero, List.set_cons_succ, i64_w, i32_w]
              rfl
            refine pure_ (i := 12) (N := some 23) (v := ?_) (a' := ?_) #[true, true, true, true, true, false, true, true, true, true, false, true, true, false, false, false, false, false, false, false] rfl rfl (any_of HT_.out (by kernel_rfl)) (fun _ _ _ h => h) (Or.inl ⟨by rfl, ?_⟩) ?_ ?_
            rotate_left
            · intro w'
              go_simp
              with_reducible rfl
            rotate_left
            · simp only [Act.put, List.setIfInBounds_toArray, List.set_cons_zero, List.set_cons_succ, i64_w, i32_w]
              rfl
            refine pure_ (i := 13) (N := some 24) (v := ?_) (a' := ?_) #[true, true, true, true, true, false, true, true, true, true, false, true, true, true, false, false, false, false, false, false] rfl rfl (any_of HT_.out (by kernel_rfl)) (fun _ _ _ h => h) (Or.inl ⟨by rfl, ?_⟩) ?_ ?_
            rotate_left
            · intro w'
              go_simp
              with_reducible rfl
            rotate_left
            · simp only [Act.put, List.setIfInBounds_toArray, List.set_cons_zero, List.set_cons_succ, i64_w, i32_w]
              rfl
            refine pure_ (i := 14) (N := some 25) (v := ?_) (a' := ?_) #[true, true, true, true, true, false, true, true, true, true, false, true, true, true, true, false, false, false, false, false] rfl rfl (any_of HT_.out (by kernel_rfl)) (fun _ _ _ h => h) (Or.inl ⟨by rfl, ?_⟩) ?_ ?_
            rotate_left
            · intro w'
              go_simp
              with_reducible rfl
            rotate_left
            · simp only [Act.put, List.setIfInBounds_toArray, List.set_cons_zero, List.set_cons_succ, i64_w, i32_w]
              rfl
            refine take_ (i := 5) (N := some 16) (v := ?_) (a' := ?_) #[true, true, true, true, true, true, true, true, true, true, false, true, true, true, true, false, false, false, false, false] rfl rfl (take_ofW HT_.out HW_.out (by kernel_rfl)) (fun _ _ _ h => h) (Or.inl ⟨by rfl, ?_⟩) hHeld ?_ ?_
            rotate_left
            · rintro w' ⟨s0, s1, s2, s3, s4, s5, s6, s7, s8⟩
              go_simp
              with_reducible rfl
            rotate_left
            · simp only [Act.put, List.setIfInBounds_toArray, List.set_cons_zero, List.set_cons_succ, i64_w, i32_w]
              rfl
            refine take_ (i := 10) (N := some 21) (v := ?_) (a' := ?_) #[true, true, true, true, true, true, true, true, true, true, true, true, true, true, true, false, false, false, false, false] rfl rfl (take_ofW HT_.out HW_.out (by kernel_rfl)) (fun _ _ _ h => h) (Or.inl ⟨by rfl, ?_⟩) hHeld ?_ ?_
            rotate_left
            · rintro w' ⟨s0, s1, s2, s3, s4, s5, s6, s7, s8⟩
              go_simp
              with_reducible rfl
            rotate_left
            · simp only [Act.put, List.setIfInBounds_toArray, List.set_cons_zero, List.set_cons_succ, i64_w, i32_w]
              rfl
            refine take_ (i := 15) (N := some 26) (v := ?_) (a' := ?_) #[true, true, true, true, true, true, true, true, true, true, true, true, true, true, true, true, false, false, false, false] rfl rfl (take_ofW HT_.out HW_.out (by kernel_rfl)) (fun _ _ _ h => h) (Or.inl ⟨by rfl, ?_⟩) hHeld ?_ ?_
            rotate_left
            · rintro w' ⟨s0, s1, s2, s3, s4, s5, s6, s7, s8⟩
              go_simp
              with_reducible rfl
            rotate_left
            · simp only [Act.put, List.setIfInBounds_toArray, List.set_cons_zero, List.set_cons_succ, i64_w, i32_w]
              rfl
            refine pure_ (i := 16) (N := some 27) (v := ?_) (a' := ?_) #[true, true, true, true, true, true, true, true, true, true, true, true, true, true, true, true, true, false, false, false] rfl rfl (any_of HT_.out (by kernel_rfl)) (fun _ _ _ h => h) (Or.inl ⟨by rfl, ?_⟩) ?_ ?_
            rotate_left
            · intro w'
              go_simp
              with_reducible rfl
            rotate_left
            · simp only [Act.put, List.setIfInBounds_toArray, List.set_cons_zero, List.set_cons_succ, i64_w, i32_w]
              rfl
            refine one_ (i := 17) (N := some 28) #[true, true, true, true, true, true, true, true, true, true, true, true, true, true, true, true, true, true, false, false] rfl rfl (one_of HT_.out (by kernel_rfl)) (by decide) (fun K hK => ?_)
            refine value_ (w1 := ?_) (v := ?_) (by rfl) rfl ?_ ?_
            rotate_left 2
            · go_simp
              constructor
              · rfl
              · rfl
            refine hK.out _ _ ⟨(World.cell?_alloc_lt _ _ _ (World.block_lt_of_cell? _ _ (((HB.out.cell (World.block_lt_of_cell? w _ hw165_0)).trans hw165_0)))).trans (((HB.out.cell (World.block_lt_of_cell? w _ hw165_0)).trans hw165_0)), (World.cell?_alloc_lt _ _ _ (World.block_lt_of_cell? _ _ (((HB.out.cell (World.block_lt_of_cell? w _ hw165_1)).trans hw165_1)))).trans (((HB.out.cell (World.block_lt_of_cell? w _ hw165_1)).trans hw165_1)), (World.cell?_alloc_lt _ _ _ (World.block_lt_of_cell? _ _ (((HB.out.cell (World.block_lt_of_cell? w _ hw165_2)).trans hw165_2)))).trans (((HB.out.cell (World.block_lt_of_cell? w _ hw165_2)).trans hw165_2)), (World.cell?_alloc_lt _ _ _ (World.block_lt_of_cell? _ _ (((HB.out.cell (World.block_lt_of_cell? w _ hw166_0)).trans hw166_0)))).trans (((HB.out.cell (World.block_lt_of_cell? w _ hw166_0)).trans hw166_0)), (World.cell?_alloc_lt _ _ _ (World.block_lt_of_cell? _ _ (((HB.out.cell (World.block_lt_of_cell? w _ hw166_1)).trans hw166_1)))).trans (((HB.out.cell (World.block_lt_of_cell? w _ hw166_1)).trans hw166_1)), (World.cell?_alloc_lt _ _ _ (World.block_lt_of_cell? _ _ (((HB.out.cell (World.block_lt_of_cell? w _ hw166_2)).trans hw166_2)))).trans (((HB.out.cell (World.block_lt_of_cell? w _ hw166_2)).trans hw166_2)), (World.cell?_alloc_lt _ _ _ (World.block_lt_of_cell? _ _ (((HB.out.cell (World.block_lt_of_cell? w _ hw167_0)).trans hw167_0)))).trans (((HB.out.cell (World.block_lt_of_cell? w _ hw167_0)).trans hw167_0)), (World.cell?_alloc_lt _ _ _ (World.block_lt_of_cell? _ _ (((HB.out.cell (World.block_lt_of_cell? w _ hw167_1)).trans hw167_1)))).trans (((HB.out.cell (World.block_lt_of_cell? w _ hw167_1)).trans hw167_1)), (World.cell?_alloc_lt _ _ _ (World.block_lt_of_cell? _ _ (((HB.out.cell (World.block_lt_of_cell? w _ hw167_2)).trans hw167_2)))).trans (((HB.out.cell (World.block_lt_of_cell? w _ hw167_2)).trans hw167_2))⟩ (fun hHeld => ?_)
            clear hK K
            refine norm_ (a' := ?_) ?_ ?_
            rotate_left
            · show Act.put _ (some 28) _ = _
              simp only [Act.put, List.setIfInBounds_toArray, List.set_cons_zero, List.set_cons_succ, i64_w, i32_w]
              rfl
            refine one_ (i := 18) (N := some 29) #[true, true, true, true, true, true, true, true, true, true, true, true, true, true, true, true, true, true, true, false] rfl rfl (one_of HT_.out (by kernel_rfl)) (by decide) (fun K hK => ?_)
            refine Kd.R_append_step k47 (w0 := w) w.heap.size (by rfl) (.tmp 11) (.tmp 28) 29 47 (.agg #[(.int .i64 0), (.int .i64 0), (.string ⟨#[]⟩)]) 32 rfl Try.underlying29 info47 rfl (by decide) (by omega) u3 x3_1 (⟨(rd_T46 l0 x4_1).f0, (rd_T46 l0 x4_1).f1, (rd_T46 l0 x4_1).f2⟩ : S47) [.int .i64 ((rd_T46 l0 x4_1).f0), .int .i64 ((rd_T46 l0 x4_1).f1), .string ((rd_T46 l0 x4_1).f2)] (fun _ => True) (fun _ => False) rfl rfl ?aP (fun _ hk => hk.elim) ?aF ?aO ?aB ?aS ?aL ?_
            (case aP => exact k47_mkM _ _ _ (⟨(rd_T46 l0 x4_1).f0, (rd_T46 l0 x4_1).f1, (rd_T46 l0 x4_1).f2⟩ : S47))
            (case aB => exact (by repeat (first | (with_reducible first | exact HB.out | apply below_alloc | apply pw_below_drewN | apply below_drew1) | exact HB.out)))
            (case aF => exact (fun _ _ => trivial))
            (case aO => exact (by (with_reducible repeat (first | apply Kd.R_alloc | apply Kd.R_drewN | apply Kd.R_drew)); exact HO_3.out))
            (case aS => exact (below_size (by repeat (first | (with_reducible first | exact HB.out | apply below_alloc | apply pw_below_drewN | apply below_drew1) | exact HB.out))))
            (case aL => have := LMc4.out; omega)
            intro v169 w6 ho hb hg hat
            rw [← Ny168.out] at ho
            have n0_ := Aside0.mk (hb)
            have n1_ := Aside0.mk (ho)
            clear HB
            clear HO_3
            have HB := n0_
            have HO170 := n1_
            clear n0_ n1_
            clear ho hb hg hat
            refine hK.out _ _ ⟨((HB.out.cell (World.block_lt_of_cell? w _ hw165_0)).trans hw165_0), ((HB.out.cell (World.block_lt_of_cell? w _ hw165_1)).trans hw165_1), ((HB.out.cell (World.block_lt_of_cell? w _ hw165_2)).trans hw165_2), ((HB.out.cell (World.block_lt_of_cell? w _ hw166_0)).trans hw166_0), ((HB.out.cell (World.block_lt_of_cell? w _ hw166_1)).trans hw166_1), ((HB.out.cell (World.block_lt_of_cell? w _ hw166_2)).trans hw166_2), ((HB.out.cell (World.block_lt_of_cell? w _ hw167_0)).trans hw167_0), ((HB.out.cell (World.block_lt_of_cell? w _ hw167_1)).trans hw167_1), ((HB.out.cell (World.block_lt_of_cell? w _ hw167_2)).trans hw167_2)⟩ (fun hHeld => ?_)
            clear hK K
            refine norm_ (a' := ?_) ?_ ?_
            rotate_left
            · show Act.put _ (some 29) _ = _
              simp only [Act.put, List.setIfInBounds_toArray, List.set_cons_zero, List.set_cons_succ, i64_w, i32_w]
              rfl
            refine pure_ (i := 19) (N := some 3) (v := ?_) (a' := ?_) #[true, true, true, true, true, true, true, true, true, true, true, true, true, true, true, true, true, true, true, true] rfl rfl (any_of HT_.out (by kernel_rfl)) (fun _ _ _ h => h) (Or.inl ⟨by rfl, ?_⟩) ?_ ?_
            rotate_left
            · intro w'
              go_simp
              with_reducible rfl
            rotate_left
            · simp only [Act.put, List.setIfInBounds_toArray, List.set_cons_zero, List.set_cons_succ, i64_w, i32_w]
              rfl
            refine done_ (done_of HT_.out (by kernel_rfl)) ?_
            try go_wp2
            go_roundg k1
            case measure => have := HK1.out; omega
            case rel => exact ⟨(y168), (wrap64 (x4_1 + 1)), (by first | rfl | (simp; done) | (simp [*]; done)), H', ⟨by have := HK1.out; omega⟩, ⟨by (with_reducible repeat (first | apply Kd.R_alloc | apply Kd.R_drewN | apply Kd.R_drew)); exact HO170.out⟩, ⟨by repeat (first | (with_reducible first | exact HB.out | apply below_alloc | apply pw_below_drewN | apply below_drew1) | exact HB.out)⟩⟩
          · rw [if_neg c4] at H
            exact absurd H (by simp)
        · rw [if_neg c3] at H
          exact absurd H (by simp)
      · rw [if_neg c2] at H
        have c2b0 : decide (x4_1 < (l0.length : Int)) = false := decide_eq_false c2
        clear c2
        obtain rfl := Option.some.inj H
        go_wp2
        go_ret
        exact ⟨_, by first | rfl | (simp [errW_none, errW_some] <;> rfl) | (simp [*, errW_none, errW_some] <;> rfl), by (with_reducible repeat (first | apply Kd.R_alloc | apply Kd.R_drewN | apply Kd.R_drew)); exact HO_3.out, by repeat (first | (with_reducible first | exact HB.out | apply below_alloc | apply pw_below_drewN | apply below_drew1) | exact HB.out)⟩

end Go.Proofs.Ytehbebpemnanoaa.F

-- F14
namespace Go.Proofs.Ytehbebpemnanoaa.F
open Go.RowKit Go.Proofs.YtehbebpemnanoaaW.PrintWords Go.Proofs.YtehbebpemnanoaaW.PrintLast Go.Proofs.YtehbebpemnanoaaW.PrintMore
attribute [local go_sem] max2_int min2_int max_two min_two max_three min_three max_four min_four   -- for this text's walks alone
set_option linter.unusedVariables false
set_option linter.unusedSimpArgs false

/-! ### strongroomlaw18_sameTokens: function 14 -/
def strongroomlaw18_sameTokens.l0 : Nat → List (S47) → List (S46) → Int → Option (Bool)
  | 0, _, _, _ => none
  | k + 1, x0, x1, x5 => if x5 < (x0.length : Int) then (if 0 ≤ x5 then (if x5 < (x1.length : Int) then (if ((rd_T47 x0 x5).f0) = ((rd_T46 x1 x5).f0) then (if ((rd_T47 x0 x5).f1) = ((rd_T46 x1 x5).f1) then (if ((rd_T47 x0 x5).f2).toList = ((rd_T46 x1 x5).f2).toList then (strongroomlaw18_sameTokens.l0 k x0 x1 (wrap64 (x5 + 1))) else (some false)) else (some false)) else (some false)) else (none)) else (none)) else (some true)
def strongroomlaw18_sameTokens.f (k : Nat) (l0 : List (S47)) (l1 : List (S46)) : Option (Bool) := if (l0.length : Int) = (l1.length : Int) then (strongroomlaw18_sameTokens.l0 k l0 l1 0) else (some false)
theorem strongroomlaw18_sameTokens.mono_l : ∀ k, (∀ y0 y1 y2, LeO (strongroomlaw18_sameTokens.l0 k y0 y1 y2) (strongroomlaw18_sameTokens.l0 (k + 1) y0 y1 y2))
  | 0 => fun _ _ _ r h => by simp [strongroomlaw18_sameTokens.l0] at h
  | k + 1 => by
    have ih0 := strongroomlaw18_sameTokens.mono_l k
    · intro y0 y1 y2
      unfold strongroomlaw18_sameTokens.l0
      repeat' first
      | (with_reducible exact ih0 _ _ _)
      | (with_reducible exact LeO.refl _)
      | (with_reducible exact LeO.none _)
      | (with_reducible refine LeO.ite ?_ ?_)
      | (with_reducible refine LeO.bind ?_ (fun _ => ?_))
      | exact ih0 _ _ _
      | exact LeO.none _
      | refine LeO.ite ?_ ?_
      | refine LeO.bind ?_ (fun _ => ?_)
theorem strongroomlaw18_sameTokens.mono : ∀ a0 a1 k, LeO (strongroomlaw18_sameTokens.f k a0 a1) (strongroomlaw18_sameTokens.f (k + 1) a0 a1) := by
  intro a0 a1 k
  have ih0 := strongroomlaw18_sameTokens.mono_l k
  unfold strongroomlaw18_sameTokens.f
  repeat' first
      | (with_reducible exact ih0 _ _ _)
      | (with_reducible exact LeO.refl _)
      | (with_reducible exact LeO.none _)
      | (with_reducible refine LeO.ite ?_ ?_)
      | (with_reducible refine LeO.bind ?_ (fun _ => ?_))
      | exact ih0 _ _ _
      | exact LeO.none _
      | refine LeO.ite ?_ ?_
      | refine LeO.bind ?_ (fun _ => ?_)
set_option maxHeartbeats 8000000 in
set_option maxRecDepth 100000 in
theorem strongroomlaw18_sameTokens.calls (k : Nat) (A0 : Option Addr) (c0 : Nat) (l0 : List (S47)) (A1 : Option Addr) (c1 : Nat) (l1 : List (S46)) (r : Bool) (w : World) (hr0 : Kd.C k47 w A0 l0.length l0) (hc0 : l0.length ≤ c0) (hr1 : Kd.C k46 w A1 l1.length l1) (hc1 : l1.length ≤ c1) (h : strongroomlaw18_sameTokens.f k l0 l1 = some r) :
    Calls Try.prog 14 #[.slice A0 l0.length c0, .slice A1 l1.length c1] w fun e w' => e = .returned (.bool r) ∧ Drawn0 w w' := by
  have HR0 := Aside0.mk hr0
  have HC0 := Aside0.mk hc0
  clear hr0 hc0
  have HR1 := Aside0.mk hr1
  have HC1 := Aside0.mk hc1
  clear hr1 hc1
  have H : (if (l0.length : Int) = (l1.length : Int) then (strongroomlaw18_sameTokens.l0 k l0 l1 0) else (some false)) = some r := h
  clear h
  by_cases c3 : (l0.length : Int) = (l1.length : Int)
  · rw [if_pos c3] at H
    have c3b0 : ((l0.length : Int) == (l1.length : Int)) = true := beq_iff_eq.mpr c3
    have c3b1 : ((l0.length : Int) != (l1.length : Int)) = false := bne_eq_false_iff_eq.mpr c3
    have c3b2 : (l0.length == l1.length) = true := by first | simpa using c3 | (simp at c3 ⊢; omega)
    clear c3
    have H' := Aside0.mk H
    clear H
    go_enter Try.func14, Try.ntmps14
    go_wp2
    repeat (go_quiet (fail); try go_wp2)
    go_loopg [5] k (fun kq v5 w' => ∃ (x5_1 : Int), v5 = .int .i64 x5_1 ∧ Aside0 (strongroomlaw18_sameTokens.l0 kq l0 l1 x5_1 = some r) ∧ Aside0 (kq ≤ k) ∧ Drawn0 w w')
    case atStart => exact ⟨(0), (by first | rfl | (simp; done) | (simp [*]; done)), H', ⟨Nat.le_refl _⟩, by repeat (first | exact Drawn0.refl _ | apply Drawn0.step)⟩
    case round =>
      clear H'
      try clear c1
      try clear p2
      try clear c3
      try clear c3b0
      try clear c3b1
      try clear c3b2
      obtain ⟨x5_1, rfl, HA, HK1, ⟨m1, rfl⟩⟩ := hrel
      cases gk with
      | zero => exact absurd HA.out (by simp [strongroomlaw18_sameTokens.l0])
      | succ k1 =>
        have H := HA.out
        clear HA
        simp only [strongroomlaw18_sameTokens.l0] at H
        by_cases c4 : x5_1 < (l0.length : Int)
        · rw [if_pos c4] at H
          have c4b0 : decide (x5_1 < (l0.length : Int)) = true := decide_eq_true c4
          clear c4
          by_cases c5 : 0 ≤ x5_1
          · rw [if_pos c5] at H
            have c5b0 : decide (0 ≤ x5_1) = true := decide_eq_true c5
            clear c5
            by_cases c6 : x5_1 < (l1.length : Int)
            · rw [if_pos c6] at H
              have c6b0 : decide (x5_1 < (l1.length : Int)) = true := decide_eq_true c6
              clear c6
              by_cases c7 : ((rd_T47 l0 x5_1).f0) = ((rd_T46 l1 x5_1).f0)
              · rw [if_pos c7] at H
                have c7b0 : (((rd_T47 l0 x5_1).f0) == ((rd_T46 l1 x5_1).f0)) = true := beq_iff_eq.mpr c7
                have c7b1 : (((rd_T47 l0 x5_1).f0) != ((rd_T46 l1 x5_1).f0)) = false := bne_eq_false_iff_eq.mpr c7
                clear c7
                by_cases c8 : ((rd_T47 l0 x5_1).f1) = ((rd_T46 l1 x5_1).f1)
                · rw [if_pos c8] at H
                  have c8b0 : (((rd_T47 l0 x5_1).f1) == ((rd_T46 l1 x5_1).f1)) = true := beq_iff_eq.mpr c8
                  have c8b1 : (((rd_T47 l0 x5_1).f1) != ((rd_T46 l1 x5_1).f1)) = false := bne_eq_false_iff_eq.mpr c8
                  clear c8
                  by_cases c9 : ((rd_T47 l0 x5_1).f2).toList = ((rd_T46 l1 x5_1).f2).toList
                  · rw [if_pos c9] at H
                    have c9b0 : (((rd_T47 l0 x5_1).f2).toList == ((rd_T46 l1 x5_1).f2).toList) = true := beq_iff_eq.mpr c9
                    have c9b1 : (((rd_T47 l0 x5_1).f2).toList != ((rd_T46 l1 x5_1).f2).toList) = false := bne_eq_false_iff_eq.mpr c9
                    clear c9
                    have H' := Aside0.mk H
                    clear H
                    have p193 : 0 ≤ (x5_1 : Int) := of_decide_eq_true (by first | (with_reducible assumption) | assumption)
                    have q193 : x5_1 < (l0.length : Int) := of_decide_eq_true (by first | (with_reducible assumption) | assumption)
                    obtain ⟨ad193, e193, hx193_0, hx193_1, hx193_2⟩ := at_T47 HR0.out x5_1 p193 q193
                    cases e193
                    replace p193 := eq_true p193
                    replace q193 := eq_true q193
                    have p194 : 0 ≤ (x5_1 : Int) := of_decide_eq_true (by first | (with_reducible assumption) | assumption)
                    have q194 : x5_1 < (l1.length : Int) := of_decide_eq_true (by first | (with_reducible assumption) | assumption)
                    obtain ⟨ad194, e194, hx194_0, hx194_1, hx194_2⟩ := at_T46 HR1.out x5_1 p194 q194
                    cases e194
                    replace p194 := eq_true p194
                    replace q194 := eq_true q194
                    have p195 : 0 ≤ (x5_1 : Int) := of_decide_eq_true (by first | (with_reducible assumption) | assumption)
                    have q195 : x5_1 < (l0.length : Int) := of_decide_eq_true (by first | (with_reducible assumption) | assumption)
                    obtain ⟨ad195, e195, hx195_0, hx195_1, hx195_2⟩ := at_T47 HR0.out x5_1 p195 q195
                    obtain rfl : ad193 = ad195 := (by injection e195)
                    replace p195 := eq_true p195
                    replace q195 := eq_true q195
                    have p196 : 0 ≤ (x5_1 : Int) := of_decide_eq_true (by first | (with_reducible assumption) | assumption)
                    have q196 : x5_1 < (l1.length : Int) := of_decide_eq_true (by first | (with_reducible assumption) | assumption)
                    obtain ⟨ad196, e196, hx196_0, hx196_1, hx196_2⟩ := at_T46 HR1.out x5_1 p196 q196
                    obtain rfl : ad194 = ad196 := (by injection e196)
                    replace p196 := eq_true p196
                    replace q196 := eq_true q196
                    have p197 : 0 ≤ (x5_1 : Int) := of_decide_eq_true (by first | (with_reducible assumption) | assumption)
                    have q197 : x5_1 < (l0.length : Int) := of_decide_eq_true (by first | (with_reducible assumption) | assumption)
                    obtain ⟨ad197, e197, hx197_0, hx197_1, hx197_2⟩ := at_T47 HR0.out x5_1 p197 q197
                    obtain rfl : ad193 = ad197 := (by injection e197)
                    replace p197 := eq_true p197
                    replace q197 := eq_true q197
                    have p198 : 0 ≤ (x5_1 : Int) := of_decide_eq_true (by first | (with_reducible assumption) | assumption)
                    have q198 : x5_1 < (l1.length : Int) := of_decide_eq_true (by first | (with_reducible assumption) | assumption)
                    obtain ⟨ad198, e198, hx198_0, hx198_1, hx198_2⟩ := at_T46 HR1.out x5_1 p198 q198
                    obtain rfl : ad194 = ad198 := (by injection e198)
                    replace p198 := eq_true p198
                    replace q198 := eq_true q198
                    go_wp2
                    repeat (go_quiet (fail); try go_wp2)
                    go_roundg k1
                    case measure => have := HK1.out; omega
                    case rel => exact ⟨(wrap64 (x5_1 + 1)), (by first | rfl | (simp; done) | (simp [*]; done)), H', ⟨by have := HK1.out; omega⟩, by repeat (first | exact Drawn0.refl _ | apply Drawn0.step)⟩
                  · rw [if_neg c9] at H
                    have c9b0 : (((rd_T47 l0 x5_1).f2).toList == ((rd_T46 l1 x5_1).f2).toList) = false := beq_eq_false_iff_ne.mpr c9
                    have c9b1 : (((rd_T47 l0 x5_1).f2).toList != ((rd_T46 l1 x5_1).f2).toList) = true := bne_iff_ne.mpr c9
                    obtain rfl := Option.some.inj H
                    have p193 : 0 ≤ (x5_1 : Int) := of_decide_eq_true (by first | (with_reducible assumption) | assumption)
                    have q193 : x5_1 < (l0.length : Int) := of_decide_eq_true (by first | (with_reducible assumption) | assumption)
                    obtain ⟨ad193, e193, hx193_0, hx193_1, hx193_2⟩ := at_T47 HR0.out x5_1 p193 q193
                    cases e193
                    replace p193 := eq_true p193
                    replace q193 := eq_true q193
                    have p194 : 0 ≤ (x5_1 : Int) := of_decide_eq_true (by first | (with_reducible assumption) | assumption)
                    have q194 : x5_1 < (l1.length : Int) := of_decide_eq_true (by first | (with_reducible assumption) | assumption)
                    obtain ⟨ad194, e194, hx194_0, hx194_1, hx194_2⟩ := at_T46 HR1.out x5_1 p194 q194
                    cases e194
                    replace p194 := eq_true p194
                    replace q194 := eq_true q194
                    have p195 : 0 ≤ (x5_1 : Int) := of_decide_eq_true (by first | (with_reducible assumption) | assumption)
                    have q195 : x5_1 < (l0.length : Int) := of_decide_eq_true (by first | (with_reducible assumption) | assumption)
                    obtain ⟨ad195, e195, hx195_0, hx195_1, hx195_2⟩ := at_T47 HR0.out x5_1 p195 q195
                    obtain rfl : ad193 = ad195 := (by injection e195)
                    replace p195 := eq_true p195
                    replace q195 := eq_true q195
                    have p196 : 0 ≤ (x5_1 : Int) := of_decide_eq_true (by first | (with_reducible assumption) | assumption)
                    have q196 : x5_1 < (l1.length : Int) := of_decide_eq_true (by first | (with_reducible assumption) | assumption)
                    obtain ⟨ad196, e196, hx196_0, hx196_1, hx196_2⟩ := at_T46 HR1.out x5_1 p196 q196
                    obtain rfl : ad194 = ad196 := (by injection e196)
                    replace p196 := eq_true p196
                    replace q196 := eq_true q196
                    have p197 : 0 ≤ (x5_1 : Int) := of_decide_eq_true (by first | (with_reducible assumption) | assumption)
                    have q197 : x5_1 < (l0.length : Int) := of_decide_eq_true (by first | (with_reducible assumption) | assumption)
                    obtain ⟨ad197, e197, hx197_0, hx197_1, hx197_2⟩ := at_T47 HR0.out x5_1 p197 q197
                    obtain rfl : ad193 = ad197 := (by injection e197)
                    replace p197 := eq_true p197
                    replace q197 := eq_true q197
                    have p198 : 0 ≤ (x5_1 : Int) := of_decide_eq_true (by first | (with_reducible assumption) | assumption)
                    have q198 : x5_1 < (l1.length : Int) := of_decide_eq_true (by first | (with_reducible assumption) | assumption)
                    obtain ⟨ad198, e198, hx198_0, hx198_1, hx198_2⟩ := at_T46 HR1.out x5_1 p198 q198
                    obtain rfl : ad194 = ad198 := (by injection e198)
                    replace p198 := eq_true p198
                    replace q198 := eq_true q198
                    go_wp2
                    repeat (go_quiet (fail); try go_wp2)
                    go_ret
                    exact ⟨by first | rfl | (simp; done) | (simp [*]; done), by repeat (first | exact Drawn0.refl _ | apply Drawn0.step)⟩
                · rw [if_neg c8] at H
                  have c8b0 : (((rd_T47 l0 x5_1).f1) == ((rd_T46 l1 x5_1).f1)) = false := beq_eq_false_iff_ne.mpr c8
                  have c8b1 : (((rd_T47 l0 x5_1).f1) != ((rd_T46 l1 x5_1).f1)) = true := bne_iff_ne.mpr c8
                  obtain rfl := Option.some.inj H
                  have p193 : 0 ≤ (x5_1 : Int) := of_decide_eq_true (by first | (with_reducible assumption) | assumption)
                  have q193 : x5_1 < (l0.length : Int) := of_decide_eq_true (by first | (with_reducible assumption) | assumption)
                  obtain ⟨ad193, e193, hx193_0, hx193_1, hx193_2⟩ := at_T47 HR0.out x5_1 p193 q193
                  cases e193
                  replace p193 := eq_true p193
                  replace q193 := eq_true q193
                  have p194 : 0 ≤ (x5_1 : Int) := of_decide_eq_true (by first | (with_reducible assumption) | assumption)
                  have q194 : x5_1 < (l1.length : Int) := of_decide_eq_true (by first | (with_reducible assumption) | assumption)
                  obtain ⟨ad194, e194, hx194_0, hx194_1, hx194_2⟩ := at_T46 HR1.out x5_1 p194 q194
                  cases e194
                  replace p194 := eq_true p194
                  replace q194 := eq_true q194
                  have p195 : 0 ≤ (x5_1 : Int) := of_decide_eq_true (by first | (with_reducible assumption) | assumption)
                  have q195 : x5_1 < (l0.length : Int) := of_decide_eq_true (by first | (with_reducible assumption) | assumption)
                  obtain ⟨ad195, e195, hx195_0, hx195_1, hx195_2⟩ := at_T47 HR0.out x5_1 p195 q195
                  obtain rfl : ad193 = ad195 := (by injection e195)
                  replace p195 := eq_true p195
                  replace q195 := eq_true q195
                  have p196 : 0 ≤ (x5_1 : Int) := of_decide_eq_true (by first | (with_reducible assumption) | assumption)
                  have q196 : x5_1 < (l1.length : Int) := of_decide_eq_true (by first | (with_reducible assumption) | assumption)
                  obtain ⟨ad196, e196, hx196_0, hx196_1, hx196_2⟩ := at_T46 HR1.out x5_1 p196 q196
                  obtain rfl : ad194 = ad196 := (by injection e196)
                  replace p196 := eq_true p196
                  replace q196 := eq_true q196
                  go_wp2
                  repeat (go_quiet (fail); try go_wp2)
                  go_ret
                  exact ⟨by first | rfl | (simp; done) | (simp [*]; done), by repeat (first | exact Drawn0.refl _ | apply Drawn0.step)⟩
              · rw [if_neg c7] at H
                have c7b0 : (((rd_T47 l0 x5_1).f0) == ((rd_T46 l1 x5_1).f0)) = false := beq_eq_false_iff_ne.mpr c7
                have c7b1 : (((rd_T47 l0 x5_1).f0) != ((rd_T46 l1 x5_1).f0)) = true := bne_iff_ne.mpr c7
                obtain rfl := Option.some.inj H
                have p193 : 0 ≤ (x5_1 : Int) := of_decide_eq_true (by first | (with_reducible assumption) | assumption)
                have q193 : x5_1 < (l0.length : Int) := of_decide_eq_true (by first | (with_reducible assumption) | assumption)
                obtain ⟨ad193, e193, hx193_0, hx193_1, hx193_2⟩ := at_T47 HR0.out x5_1 p193 q193
                cases e193
                replace p193 := eq_true p193
                replace q193 := eq_true q193
                have p194 : 0 ≤ (x5_1 : Int) := of_decide_eq_true (by first | (with_reducible assumption) | assumption)
                have q194 : x5_1 < (l1.length : Int) := of_decide_eq_true (by first | (with_reducible assumption) | assumption)
                obtain ⟨ad194, e194, hx194_0, hx194_1, hx194_2⟩ := at_T46 HR1.out x5_1 p194 q194
                cases e194
                replace p194 := eq_true p194
                replace q194 := eq_true q194
                go_wp2
                repeat (go_quiet (fail); try go_wp2)
                go_ret
                exact ⟨by first | rfl | (simp; done) | (simp [*]; done), by repeat (first | exact Drawn0.refl _ | apply Drawn0.step)⟩
            · rw [if_neg c6] at H
              exact absurd H (by simp)
          · rw [if_neg c5] at H
            exact absurd H (by simp)
        · rw [if_neg c4] at H
          have c4b0 : decide (x5_1 < (l0.length : Int)) = false := decide_eq_false c4
          clear c4
          obtain rfl := Option.some.inj H
          go_wp2
          repeat (go_quiet (fail); try go_wp2)
          go_ret
          exact ⟨by first | rfl | (simp; done) | (simp [*]; done), by repeat (first | exact Drawn0.refl _ | apply Drawn0.step)⟩
  · rw [if_neg c3] at H
    have c3b0 : ((l0.length : Int) == (l1.length : Int)) = false := beq_eq_false_iff_ne.mpr c3
    have c3b1 : ((l0.length : Int) != (l1.length : Int)) = true := bne_iff_ne.mpr c3
    have c3b2 : (l0.length == l1.length) = false := by first | simpa using c3 | (simp at c3 ⊢; omega)
    obtain rfl := Option.some.inj H
    go_enter Try.func14, Try.ntmps14
    go_wp2
    repeat (go_quiet (fail); try go_wp2)
    go_ret
    exact ⟨by first | rfl | (simp; done) | (simp [*]; done), by repeat (first | exact Drawn0.refl _ | apply Drawn0.step)⟩

-- NOT PRINTED: function 3 (strongroomlaw18_LzJoins)

end Go.Proofs.Ytehbebpemnanoaa.F

-- F8
namespace Go.Proofs.Ytehbebpemnanoaa.F
open Go.RowKit Go.Proofs.YtehbebpemnanoaaW.PrintWords Go.Proofs.YtehbebpemnanoaaW.PrintLast Go.Proofs.YtehbebpemnanoaaW.PrintMore
attribute [local go_sem] max2_int min2_int max_two min_two max_three min_three max_four min_four   -- for this text's walks alone
set_option linter.unusedVariables false
set_option linter.unusedSimpArgs false

/-! ### strongroomlaw18_few: function 8 -/
def strongroomlaw18_few.l0 : Nat → List (S46) → Int → Option (Bool)
  | 0, _, _ => none
  | k + 1, x0, x3 => if x3 < (x0.length : Int) then (if 0 ≤ x3 then (if (((rd_T46 x0 x3).f2).size : Int) > 1000 then (some false) else (strongroomlaw18_few.l0 k x0 (wrap64 (x3 + 1)))) else (none)) else (some true)
def strongroomlaw18_few.f (k : Nat) (l0 : List (S46)) : Option (Bool) := if (l0.length : Int) > 600 then (some false) else (strongroomlaw18_few.l0 k l0 0)
theorem strongroomlaw18_few.mono_l : ∀ k, (∀ y0 y1, LeO (strongroomlaw18_few.l0 k y0 y1) (strongroomlaw18_few.l0 (k + 1) y0 y1))
  | 0 => fun _ _ r h => by simp [strongroomlaw18_few.l0] at h
  | k + 1 => by
    have ih0 := strongroomlaw18_few.mono_l k
    · intro y0 y1
      unfold strongroomlaw18_few.l0
      repeat' first
      | (with_reducible exact ih0 _ _)
      | (with_reducible exact LeO.refl _)
      | (with_reducible exact LeO.none _)
      | (with_reducible refine LeO.ite ?_ ?_)
      | (with_reducible refine LeO.bind ?_ (fun _ => ?_))
      | exact ih0 _ _
      | exact LeO.none _
      | refine LeO.ite ?_ ?_
      | refine LeO.bind ?_ (fun _ => ?_)
theorem strongroomlaw18_few.mono : ∀ a0 k, LeO (strongroomlaw18_few.f k a0) (strongroomlaw18_few.f (k + 1) a0) := by
  intro a0 k
  have ih0 := strongroomlaw18_few.mono_l k
  unfold strongroomlaw18_few.f
  repeat' first
      | (with_reducible exact ih0 _ _)
      | (with_reducible exact LeO.refl _)
      | (with_reducible exact LeO.none _)
      | (with_reducible refine LeO.ite ?_ ?_)
      | (with_reducible refine LeO.bind ?_ (fun _ => ?_))
      | exact ih0 _ _
      | exact LeO.none _
      | refine LeO.ite ?_ ?_
      | refine LeO.bind ?_ (fun _ => ?_)
set_option maxHeartbeats 8000000 in
set_option maxRecDepth 100000 in
theorem strongroomlaw18_few.calls (k : Nat) (A0 : Option Addr) (c0 : Nat) (l0 : List (S46)) (r : Bool) (w : World) (hr0 : Kd.C k46 w A0 l0.length l0) (hc0 : l0.length ≤ c0) (h : strongroomlaw18_few.f k l0 = some r) :
    Calls Try.prog 8 #[.slice A0 l0.length c0] w fun e w' => e = .returned (.bool r) ∧ Drawn0 w w' := by
  have HR0 := Aside0.mk hr0
  have HC0 := Aside0.mk hc0
  clear hr0 hc0
  have H : (if (l0.length : Int) > 600 then (some false) else (strongroomlaw18_few.l0 k l0 0)) = some r := h
  clear h
  by_cases c2 : (l0.length : Int) > 600
  · rw [if_pos c2] at H
    have c2b0 : decide (600 < (l0.length : Int)) = true := decide_eq_true c2
    have c2b1 : decide (600 < l0.length) = true := decide_eq_true (by omega)
    clear c2
    obtain rfl := Option.some.inj H
    go_enter Try.func8, Try.ntmps8
    go_wp2
    go_ret
    exact ⟨by first | rfl | (simp; done) | (simp [*]; done), by repeat (first | exact Drawn0.refl _ | apply Drawn0.step)⟩
  · rw [if_neg c2] at H
    have c2b0 : decide (600 < (l0.length : Int)) = false := decide_eq_false c2
    have c2b1 : decide (600 < l0.length) = false := decide_eq_false (by omega)
    clear c2
    have H' := Aside0.mk H
    clear H
    go_enter Try.func8, Try.ntmps8
    go_wp2
    go_loopg [3] k (fun kq v3 w' => ∃ (x3_1 : Int), v3 = .int .i64 x3_1 ∧ Aside0 (strongroomlaw18_few.l0 kq l0 x3_1 = some r) ∧ Aside0 (kq ≤ k) ∧ Drawn0 w w')
    case atStart => exact ⟨(0), (by first | rfl | (simp; done) | (simp [*]; done)), H', ⟨Nat.le_refl _⟩, by repeat (first | exact Drawn0.refl _ | apply Drawn0.step)⟩
    case round =>
      clear H'
      try clear c2
      try clear c2b0
      try clear c2b1
      try clear p2
      obtain ⟨x3_1, rfl, HA, HK1, ⟨m1, rfl⟩⟩ := hrel
      cases gk with
      | zero => exact absurd HA.out (by simp [strongroomlaw18_few.l0])
      | succ k1 =>
        have H := HA.out
        clear HA
        simp only [strongroomlaw18_few.l0] at H
        by_cases c3 : x3_1 < (l0.length : Int)
        · rw [if_pos c3] at H
          have c3b0 : decide (x3_1 < (l0.length : Int)) = true := decide_eq_true c3
          clear c3
          by_cases c4 : 0 ≤ x3_1
          · rw [if_pos c4] at H
            have c4b0 : decide (0 ≤ x3_1) = true := decide_eq_true c4
            clear c4
            by_cases c5 : (((rd_T46 l0 x3_1).f2).size : Int) > 1000
            · rw [if_pos c5] at H
              have c5b0 : decide (1000 < (((rd_T46 l0 x3_1).f2).size : Int)) = true := decide_eq_true c5
              have c5b1 : decide (1000 < ((rd_T46 l0 x3_1).f2).size) = true := decide_eq_true (by omega)
              clear c5
              obtain rfl := Option.some.inj H
              have p101 : 0 ≤ (x3_1 : Int) := of_decide_eq_true (by first | (with_reducible assumption) | assumption)
              have q101 : x3_1 < (l0.length : Int) := of_decide_eq_true (by first | (with_reducible assumption) | assumption)
              obtain ⟨ad101, e101, hx101_0, hx101_1, hx101_2⟩ := at_T46 HR0.out x3_1 p101 q101
              cases e101
              replace p101 := eq_true p101
              replace q101 := eq_true q101
              go_wp2
              go_ret
              exact ⟨by first | rfl | (simp; done) | (simp [*]; done), by repeat (first | exact Drawn0.refl _ | apply Drawn0.step)⟩
            · rw [if_neg c5] at H
              have c5b0 : decide (1000 < (((rd_T46 l0 x3_1).f2).size : Int)) = false := decide_eq_false c5
              have c5b1 : decide (1000 < ((rd_T46 l0 x3_1).f2).size) = false := decide_eq_false (by omega)
              clear c5
              have H' := Aside0.mk H
              clear H
              have p101 : 0 ≤ (x3_1 : Int) := of_decide_eq_true (by first | (with_reducible assumption) | assumption)
              have q101 : x3_1 < (l0.length : Int) := of_decide_eq_true (by first | (with_reducible assumption) | assumption)
              obtain ⟨ad101, e101, hx101_0, hx101_1, hx101_2⟩ := at_T46 HR0.out x3_1 p101 q101
              cases e101
              replace p101 := eq_true p101
              replace q101 := eq_true q101
              go_wp2
              go_roundg k1
              case measure => have := HK1.out; omega
              case rel => exact ⟨(wrap64 (x3_1 + 1)), (by first | rfl | (simp; done) | (simp [*]; done)), H', ⟨by have := HK1.out; omega⟩, by repeat (first | exact Drawn0.refl _ | apply Drawn0.step)⟩
          · rw [if_neg c4] at H
            exact absurd H (by simp)
        · rw [if_neg c3] at H
          have c3b0 : decide (x3_1 < (l0.length : Int)) = false := decide_eq_false c3
          clear c3
          obtain rfl := Option.some.inj H
          go_wp2
          go_ret
          exact ⟨by first | rfl | (simp; done) | (simp [*]; done), by repeat (first | exact Drawn0.refl _ | apply Drawn0.step)⟩

end Go.Proofs.Ytehbebpemnanoaa.F

-- F30
namespace Go.Proofs.Ytehbebpemnanoaa.F
open Go.RowKit Go.Proofs.YtehbebpemnanoaaW.PrintWords Go.Proofs.YtehbebpemnanoaaW.PrintLast Go.Proofs.YtehbebpemnanoaaW.PrintMore
attribute [local go_sem] max2_int min2_int max_two min_two max_three min_three max_four min_four   -- for this text's walks alone
set_option linter.unusedVariables false
set_option linter.unusedSimpArgs false

/-! ### lz_alike: function 30 -/
def lz_alike.l0 : Nat → List Int → Int → Int → Int → Option (Int)
  | 0, _, _, _, _ => none
  | k + 1, x0, x1, x2, x7 => if x7 < 130 then (if (wrap64 (x2 + x7)) < (x0.length : Int) then (if 0 ≤ (wrap64 (x1 + x7)) then (if (wrap64 (x1 + x7)) < (x0.length : Int) then (if 0 ≤ (wrap64 (x2 + x7)) then (if (rd x0 (wrap64 (x1 + x7))) = (rd x0 (wrap64 (x2 + x7))) then (lz_alike.l0 k x0 x1 x2 (wrap64 (x7 + 1))) else (some x7)) else (none)) else (none)) else (none)) else (some x7)) else (some x7)
def lz_alike.f (k : Nat) (l0 : List Int) (a1 : Int) (a2 : Int) : Option (Int) := lz_alike.l0 k l0 a1 a2 0
theorem lz_alike.mono_l : ∀ k, (∀ y0 y1 y2 y3, LeO (lz_alike.l0 k y0 y1 y2 y3) (lz_alike.l0 (k + 1) y0 y1 y2 y3))
  | 0 => fun _ _ _ _ r h => by simp [lz_alike.l0] at h
  | k + 1 => by
    have ih0 := lz_alike.mono_l k
    · intro y0 y1 y2 y3
      unfold lz_alike.l0
      repeat' first
      | (with_reducible exact ih0 _ _ _ _)
      | (with_reducible exact LeO.refl _)
      | (with_reducible exact LeO.none _)
      | (with_reducible refine LeO.ite ?_ ?_)
      | (with_reducible refine LeO.bind ?_ (fun _ => ?_))
      | exact ih0 _ _ _ _
      | exact LeO.none _
      | refine LeO.ite ?_ ?_
      | refine LeO.bind ?_ (fun _ => ?_)
theorem lz_alike.mono : ∀ a0 a1 a2 k, LeO (lz_alike.f k a0 a1 a2) (lz_alike.f (k + 1) a0 a1 a2) := by
  intro a0 a1 a2 k
  have ih0 := lz_alike.mono_l k
  unfold lz_alike.f
  repeat' first
      | (with_reducible exact ih0 _ _ _ _)
      | (with_reducible exact LeO.refl _)
      | (with_reducible exact LeO.none _)
      | (with_reducible refine LeO.ite ?_ ?_)
      | (with_reducible refine LeO.bind ?_ (fun _ => ?_))
      | exact ih0 _ _ _ _
      | exact LeO.none _
      | refine LeO.ite ?_ ?_
      | refine LeO.bind ?_ (fun _ => ?_)
set_option maxHeartbeats 8000000 in
set_option maxRecDepth 100000 in
theorem lz_alike.calls (k : Nat) (A0 : Option Addr) (c0 : Nat) (l0 : List Int) (a1 : Int) (a2 : Int) (r : Int) (w : World) (hr0 : Kd.C (Kd.int .u8) w A0 l0.length l0) (hc0 : l0.length ≤ c0) (h : lz_alike.f k l0 a1 a2 = some r) :
    Calls Try.prog 30 #[.slice A0 l0.length c0, .int .i64 a1, .int .i64 a2] w fun e w' => e = .returned (.int .i64 r) ∧ Drawn0 w w' := by
  have HR0 := Aside0.mk hr0
  have HC0 := Aside0.mk hc0
  clear hr0 hc0
  have H : (lz_alike.l0 k l0 a1 a2 0) = some r := h
  clear h
  have H' := Aside0.mk H
  clear H
  go_enter Try.func30, Try.ntmps30
  go_wp2
  repeat (go_quiet (fail); try go_wp2)
  go_loopg [7] k (fun kq v7 w' => ∃ (x7_1 : Int), v7 = .int .i64 x7_1 ∧ Aside0 (lz_alike.l0 kq l0 a1 a2 x7_1 = some r) ∧ Aside0 (kq ≤ k) ∧ Drawn0 w w')
  case atStart => exact ⟨(0), (by first | rfl | (simp; done) | (simp [*]; done)), H', ⟨Nat.le_refl _⟩, by repeat (first | exact Drawn0.refl _ | apply Drawn0.step)⟩
  case round =>
    clear H'
    try clear p2
    try clear c3
    obtain ⟨x7_1, rfl, HA, HK1, ⟨m1, rfl⟩⟩ := hrel
    cases gk with
    | zero => exact absurd HA.out (by simp [lz_alike.l0])
    | succ k1 =>
      have H := HA.out
      clear HA
      simp only [lz_alike.l0] at H
      by_cases c4 : x7_1 < 130
      · rw [if_pos c4] at H
        have c4b0 : decide (x7_1 < 130) = true := decide_eq_true c4
        clear c4
        by_cases c5 : (wrap64 (a2 + x7_1)) < (l0.length : Int)
        · rw [if_pos c5] at H
          have c5b0 : decide ((wrap64 (a2 + x7_1)) < (l0.length : Int)) = true := decide_eq_true c5
          clear c5
          obtain ⟨ji6, hji6⟩ : ∃ j_ : Int, (wrap64 (a1 + x7_1)) = j_ := ⟨_, rfl⟩
          replace H : (if 0 ≤ (ji6) then (if (ji6) < (l0.length : Int) then (if 0 ≤ (wrap64 (a2 + x7_1)) then (if (rd l0 (ji6)) = (rd l0 (wrap64 (a2 + x7_1))) then (lz_alike.l0 k1 l0 a1 a2 (wrap64 (x7_1 + 1))) else (some x7_1)) else (none)) else (none)) else (none)) = some r := by first | (rw [hji6] at H; exact H) | (simp only [hji6] at H ⊢; exact H)
          have hji6w : (IntKind.i64.wrap (a1 + x7_1)) = ji6 := (i64_w _).trans hji6
          by_cases c7 : 0 ≤ (ji6)
          · rw [if_pos c7] at H
            have c7b0 : decide (0 ≤ (ji6)) = true := decide_eq_true c7
            clear c7
            by_cases c8 : (ji6) < (l0.length : Int)
            · rw [if_pos c8] at H
              have c8b0 : decide ((ji6) < (l0.length : Int)) = true := decide_eq_true c8
              clear c8
              obtain ⟨ji9, hji9⟩ : ∃ j_ : Int, (wrap64 (a2 + x7_1)) = j_ := ⟨_, rfl⟩
              replace H : (if 0 ≤ (ji9) then (if (rd l0 (ji6)) = (rd l0 (ji9)) then (lz_alike.l0 k1 l0 a1 a2 (wrap64 (x7_1 + 1))) else (some x7_1)) else (none)) = some r := by first | (rw [hji9] at H; exact H) | (simp only [hji9] at H ⊢; exact H)
              (try rw [hji9] at c5b0)
              have hji9w : (IntKind.i64.wrap (a2 + x7_1)) = ji9 := (i64_w _).trans hji9
              by_cases c10 : 0 ≤ (ji9)
              · rw [if_pos c10] at H
                have c10b0 : decide (0 ≤ (ji9)) = true := decide_eq_true c10
                clear c10
                by_cases c11 : (rd l0 (ji6)) = (rd l0 (ji9))
                · rw [if_pos c11] at H
                  have c11b0 : ((rd l0 (ji6)) == (rd l0 (ji9))) = true := beq_iff_eq.mpr c11
                  have c11b1 : ((rd l0 (ji6)) != (rd l0 (ji9))) = false := bne_eq_false_iff_eq.mpr c11
                  clear c11
                  have H' := Aside0.mk H
                  clear H
                  have p200 : 0 ≤ ((ji6) : Int) := of_decide_eq_true (by first | (with_reducible assumption) | assumption)
                  have q200 : (ji6) < (l0.length : Int) := of_decide_eq_true (by first | (with_reducible assumption) | assumption)
                  obtain ⟨ad200, e200, hx200_0⟩ := Kd.at_int HR0.out (ji6) p200 q200
                  cases e200
                  replace p200 := eq_true p200
                  replace q200 := eq_true q200
                  have p201 : 0 ≤ ((ji9) : Int) := of_decide_eq_true (by first | (with_reducible assumption) | assumption)
                  have q201 : (ji9) < (l0.length : Int) := of_decide_eq_true (by first | (with_reducible assumption) | assumption)
                  obtain ⟨ad201, e201, hx201_0⟩ := Kd.at_int HR0.out (ji9) p201 q201
                  obtain rfl : ad200 = ad201 := (by injection e201)
                  replace p201 := eq_true p201
                  replace q201 := eq_true q201
                  go_wp2
                  repeat (go_quiet (fail); try go_wp2)
                  go_roundg k1
                  case measure => have := HK1.out; omega
                  case rel => exact ⟨(wrap64 (x7_1 + 1)), (by first | rfl | (simp; done) | (simp [*]; done)), H', ⟨by have := HK1.out; omega⟩, by repeat (first | exact Drawn0.refl _ | apply Drawn0.step)⟩
                · rw [if_neg c11] at H
                  have c11b0 : ((rd l0 (ji6)) == (rd l0 (ji9))) = false := beq_eq_false_iff_ne.mpr c11
                  have c11b1 : ((rd l0 (ji6)) != (rd l0 (ji9))) = true := bne_iff_ne.mpr c11
                  obtain rfl := Option.some.inj H
                  have p200 : 0 ≤ ((ji6) : Int) := of_decide_eq_true (by first | (with_reducible assumption) | assumption)
                  have q200 : (ji6) < (l0.length : Int) := of_decide_eq_true (by first | (with_reducible assumption) | assumption)
                  obtain ⟨ad200, e200, hx200_0⟩ := Kd.at_int HR0.out (ji6) p200 q200
                  cases e200
                  replace p200 := eq_true p200
                  replace q200 := eq_true q200
                  have p201 : 0 ≤ ((ji9) : Int) := of_decide_eq_true (by first | (with_reducible assumption) | assumption)
                  have q201 : (ji9) < (l0.length : Int) := of_decide_eq_true (by first | (with_reducible assumption) | assumption)
                  obtain ⟨ad201, e201, hx201_0⟩ := Kd.at_int HR0.out (ji9) p201 q201
                  obtain rfl : ad200 = ad201 := (by injection e201)
                  replace p201 := eq_true p201
                  replace q201 := eq_true q201
                  go_wp2
                  repeat (go_quiet (fail); try go_wp2)
                  go_ret
                  exact ⟨by first | rfl | (simp; done) | (simp only [← hji6, ← hji9] <;> (first | rfl | simp)) | (simp [*]; done), by repeat (first | exact Drawn0.refl _ | apply Drawn0.step)⟩
              · rw [if_neg c10] at H
                exact absurd H (by simp)
            · rw [if_neg c8] at H
              exact absurd H (by simp)
          · rw [if_neg c7] at H
            exact absurd H (by simp)
        · rw [if_neg c5] at H
          have c5b0 : decide ((wrap64 (a2 + x7_1)) < (l0.length : Int)) = false := decide_eq_false c5
          clear c5
          obtain rfl := Option.some.inj H
          go_wp2
          repeat (go_quiet (fail); try go_wp2)
          go_ret
          exact ⟨by first | rfl | (simp; done) | (simp [*]; done), by repeat (first | exact Drawn0.refl _ | apply Drawn0.step)⟩
      · rw [if_neg c4] at H
        have c4b0 : decide (x7_1 < 130) = false := decide_eq_false c4
        clear c4
        obtain rfl := Option.some.inj H
        go_wp2
        repeat (go_quiet (fail); try go_wp2)
        go_ret
        exact ⟨by first | rfl | (simp; done) | (simp [*]; done), by repeat (first | exact Drawn0.refl _ | apply Drawn0.step)⟩

-- NOT PRINTED: function 24 (lz_choose)

-- NOT PRINTED: function 15 (lz_Pack)

end Go.Proofs.Ytehbebpemnanoaa.F

-- LzL
namespace Go.Proofs.Ytehbebpemnanoaa.F
open Go Go.RowKit Go.Proofs.YtehbebpemnanoaaW.PrintWords Go.Proofs.YtehbebpemnanoaaW.PrintLast Go.Proofs.YtehbebpemnanoaaW.PrintMore Go.Proofs.YtehbebpemnanoaaM Go.Proofs.YtehbebpemnanoaaR
set_option linter.unusedSimpArgs false
set_option linter.unusedVariables false
set_option maxRecDepth 100000
def tkA (x : S46) : Tk := ⟨x.f0, x.f1, x.f2⟩
def tkL (t : Tk) : S47 := ⟨t.b, t.s, t.d⟩
theorem nil_iff (d : ByteArray) : d.toList = ([] : List UInt8) ↔ d.size = 0 := by
  rw [ByteArray.toList_eq]
  cases d with | mk a => simp [ByteArray.size]
theorem right_f (t : Tk) : lz_right.f t.b t.s t.d = some (rightT t) := by
  unfold lz_right.f rightT
  by_cases hd : t.d.size = 0
  · rw [if_pos ((nil_iff _).2 hd), if_pos hd]
    by_cases h1 : t.s ≥ 3
    · by_cases h2 : t.s ≤ 130
      · by_cases h3 : t.b ≥ 1
        · rw [if_pos h1, if_pos h2, if_pos h3]; simp; omega
        · rw [if_pos h1, if_pos h2, if_neg h3]; simp; omega
      · rw [if_pos h1, if_neg h2]; simp; omega
    · rw [if_neg h1]; simp; omega
  · rw [if_neg (fun h => hd ((nil_iff _).1 h)), if_neg hd]
    by_cases h1 : (t.d.size : Int) ≤ 128
    · by_cases h2 : t.b = 0
      · rw [if_pos h1, if_pos h2]
        have : decide (t.d.size ≤ 128) = true := decide_eq_true (by omega)
        simp [this, h2]
        rw [Bool.eq_iff_iff]; simp
      · rw [if_pos h1, if_neg h2]; simp [h2]
    · rw [if_neg h1]
      have : decide (t.d.size ≤ 128) = false := decide_eq_false (by omega)
      simp [this]
theorem rright_f (t : Tk) : strongroomref18_Right.f t.b t.s t.d = some (rightT t) := right_f t
theorem right_c (w : World) (t : Tk) : Calls Try.prog 19 #[.agg #[.int .i64 t.b, .int .i64 t.s, .string t.d]] w (Tells w (Is (.bool (rightT t)))) :=
  tells_is ((lz_right.calls _ _ _ _ w (right_f t)).mono fun _ _ ⟨h, k⟩ => ⟨h, k⟩)
theorem rright_c (w : World) (t : Tk) : Calls Try.prog 21 #[.agg #[.int .i64 t.b, .int .i64 t.s, .string t.d]] w (Tells w (Is (.bool (rightT t)))) :=
  tells_is ((strongroomref18_Right.calls _ _ _ _ w (rright_f t)).mono fun _ _ ⟨h, k⟩ => ⟨h, k⟩)
/-- how many bytes packed ones tell -/
def sizeL (l : List Int) : Int × Int := if (getL l 0).2.2 = 0 ∧ (getL l 0).1 ≤ 65536 then ((getL l 0).1, 0) else (0, 4)
theorem size_f2 (l : List Int) (hl : l.length ≤ 140737488351232) (hb : ∀ x ∈ l, 0 ≤ x ∧ x < 256) : lz_Size.f 12 l = some (sizeL l) := by
  unfold lz_Size.f sizeL
  rw [get_f l hl hb 0 12 (Nat.le_refl _), obs]
  by_cases h : (getL l 0).2.2 = 0
  · obtain ⟨m, n, _, hn, hq, hle, hs⟩ := getL_ok hb h
    rw [if_pos h, hq]
    by_cases h2 : (n : Int) > 65536
    · rw [if_pos h2, if_neg (by rintro ⟨_, h3⟩; simp at h3; omega)]
    · rw [if_neg h2, if_pos ⟨rfl, by simp; omega⟩]
      simp only
      rw [w64 (by omega) (by omega)]
  · rw [if_neg h, if_neg (fun h2 => h h2.1)]
theorem lsize_c (w : World) (A : Option Addr) (c : Nat) (l : List Int) (hr : Kd.C (Kd.int .u8) w A l.length l) (hc : l.length ≤ c) (hl : l.length ≤ 140737488351232) (hb : ∀ x ∈ l, 0 ≤ x ∧ x < 256) :
    Calls Try.prog 18 #[.slice A l.length c] w (Tells w (Is (.tuple #[.int .i64 (sizeL l).1, .int .i64 (sizeL l).2]))) :=
  tells_is ((lz_Size.calls 12 A c l _ _ w hr hc (size_f2 l hl hb)).mono fun _ _ ⟨h, k⟩ => ⟨h, k.below⟩)
theorem mine_l0 (l : List S46) (hl : l.length ≤ 100000) : ∀ (suf pre : List S46) (k : Nat), l = pre ++ suf → suf.length + 1 ≤ k →
    strongroomlaw18_mine.l0 k l (pre.map fun x => tkL (tkA x)) (pre.length : Int) = some (l.map fun x => tkL (tkA x))
  | [], pre, k, h, hk => by
    obtain ⟨k, rfl⟩ : ∃ m, k = m + 1 := ⟨k - 1, by simp at hk; omega⟩
    rw [strongroomlaw18_mine.l0, if_neg (by rw [h]; simp)]
    rw [h]; simp
  | x :: suf, pre, k, h, hk => by
    obtain ⟨k, rfl⟩ : ∃ m, k = m + 1 := ⟨k - 1, by simp at hk; omega⟩
    have hlt : pre.length < l.length := by rw [h]; simp
    have hx : rd_T46 l (pre.length : Int) = x := by unfold rd_T46; rw [Int.toNat_natCast, h]; simp [List.getD]
    have hw : wrap64 ((pre.length : Int) + 1) = ((pre ++ [x]).length : Int) := by rw [List.length_append, List.length_singleton]; unfold wrap64; omega
    rw [strongroomlaw18_mine.l0, if_pos (by omega), if_pos (by omega), if_pos (by simp; omega), hx, hw]
    have := mine_l0 l hl suf (pre ++ [x]) k (by rw [h]; simp) (by simp at hk; omega)
    rw [List.map_append, List.map_singleton] at this
    exact this
theorem mine_f (l : List S46) (hl : l.length ≤ 100000) : strongroomlaw18_mine.f (l.length + 1) l = some (l.map fun x => tkL (tkA x)) := mine_l0 l hl l [] _ rfl (Nat.le_refl _)
theorem same_l0 (l : List S46) (hl : l.length ≤ 100000) : ∀ (suf pre : List S46) (k : Nat), l = pre ++ suf → suf.length + 1 ≤ k →
    strongroomlaw18_sameTokens.l0 k (l.map fun x => tkL (tkA x)) l (pre.length : Int) = some true
  | [], pre, k, h, hk => by
    obtain ⟨k, rfl⟩ : ∃ m, k = m + 1 := ⟨k - 1, by simp at hk; omega⟩
    rw [strongroomlaw18_sameTokens.l0, if_neg (by rw [h]; simp)]
  | x :: suf, pre, k, h, hk => by
    obtain ⟨k, rfl⟩ : ∃ m, k = m + 1 := ⟨k - 1, by simp at hk; omega⟩
    have hlt : pre.length < l.length := by rw [h]; simp
    have hx : rd_T46 l (pre.length : Int) = x := by unfold rd_T46; rw [Int.toNat_natCast, h]; simp [List.getD]
    have hy : rd_T47 (l.map fun x => tkL (tkA x)) (pre.length : Int) = tkL (tkA x) := by unfold rd_T47; rw [Int.toNat_natCast, h]; simp [List.getD]
    have hw : wrap64 ((pre.length : Int) + 1) = ((pre ++ [x]).length : Int) := by rw [List.length_append, List.length_singleton]; unfold wrap64; omega
    rw [strongroomlaw18_sameTokens.l0, if_pos (by rw [List.length_map]; omega), if_pos (by omega), if_pos (by omega), hx, hy, hw, if_pos (show (tkL (tkA x)).f0 = x.f0 from rfl), if_pos (show (tkL (tkA x)).f1 = x.f1 from rfl), if_pos (show (tkL (tkA x)).f2.toList = x.f2.toList from rfl)]
    exact same_l0 l hl suf (pre ++ [x]) k (by rw [h]; simp) (by simp at hk; omega)
theorem same_f (l : List S46) (hl : l.length ≤ 100000) : strongroomlaw18_sameTokens.f (l.length + 1) (l.map fun x => tkL (tkA x)) l = some true := by
  unfold strongroomlaw18_sameTokens.f
  rw [if_pos (by rw [List.length_map])]
  exact same_l0 l hl l [] _ rfl (Nat.le_refl _)
theorem few_l0 (l : List S46) (hl : l.length ≤ 600) : ∀ (suf pre : List S46) (k : Nat), l = pre ++ suf → suf.length + 1 ≤ k →
    ∃ b, strongroomlaw18_few.l0 k l (pre.length : Int) = some b ∧ (b = true → ∀ x ∈ suf, x.f2.size ≤ 1000)
  | [], pre, k, h, hk => by
    obtain ⟨k, rfl⟩ : ∃ m, k = m + 1 := ⟨k - 1, by simp at hk; omega⟩
    exact ⟨true, by rw [strongroomlaw18_few.l0, if_neg (by rw [h]; simp)], fun _ x hx => by cases hx⟩
  | x :: suf, pre, k, h, hk => by
    obtain ⟨k, rfl⟩ : ∃ m, k = m + 1 := ⟨k - 1, by simp at hk; omega⟩
    have hlt : pre.length < l.length := by rw [h]; simp
    have hx : rd_T46 l (pre.length : Int) = x := by unfold rd_T46; rw [Int.toNat_natCast, h]; simp [List.getD]
    rw [strongroomlaw18_few.l0, if_pos (by omega), if_pos (by omega), hx]
    by_cases hs : ((x.f2.size : Int) > 1000)
    · exact ⟨false, by rw [if_pos hs], fun h => by cases h⟩
    · have hw : wrap64 ((pre.length : Int) + 1) = ((pre ++ [x]).length : Int) := by rw [List.length_append, List.length_singleton]; unfold wrap64; omega
      obtain ⟨b, h1, h2⟩ := few_l0 l hl suf (pre ++ [x]) k (by rw [h]; simp) (by simp at hk; omega)
      refine ⟨b, by rw [if_neg hs, hw]; exact h1, fun hb y hy => ?_⟩
      rcases List.mem_cons.1 hy with rfl | hy
      · omega
      · exact h2 hb y hy
theorem few_c (l : List S46) : ∃ b, (b = true → l.length ≤ 600 ∧ ∀ x ∈ l, x.f2.size ≤ 1000) ∧ ∀ (w : World) (A : Option Addr) (c : Nat), Kd.C k46 w A l.length l → l.length ≤ c →
    Calls Try.prog 8 #[.slice A l.length c] w (Tells w (Is (.bool b))) := by
  obtain ⟨b, h1, h2⟩ : ∃ b, strongroomlaw18_few.f (l.length + 1) l = some b ∧ (b = true → l.length ≤ 600 ∧ ∀ x ∈ l, x.f2.size ≤ 1000) := by
    unfold strongroomlaw18_few.f
    by_cases h : (l.length : Int) > 600
    · exact ⟨false, by rw [if_pos h], fun h => by cases h⟩
    · obtain ⟨b, h1, h2⟩ := few_l0 l (by omega) l [] (l.length + 1) rfl (Nat.le_refl _)
      exact ⟨b, by rw [if_neg h]; exact h1, fun hb => ⟨by omega, h2 hb⟩⟩
  exact ⟨b, h2, fun w A c hC hc => tells_is ((strongroomlaw18_few.calls _ A c l b w hC hc h1).mono fun _ _ ⟨h, k⟩ => ⟨h, k.below⟩)⟩
/-- so many bytes from i on are those from k on, and no more up to 130 -/
structure Alike (l : List Int) (k i n : Nat) : Prop where
  le : n ≤ 130
  len : i + n ≤ l.length
  same : ∀ j, j < n → l.getD (k + j) 0 = l.getD (i + j) 0
  stop : n = 130 ∨ i + n = l.length ∨ l.getD (k + n) 0 ≠ l.getD (i + n) 0
theorem alike_l0 (l : List Int) (hl : l.length ≤ 1000000) (k i : Nat) (hk : k < i) (hi : i ≤ l.length) : ∀ (f n : Nat), n + f = 131 → n ≤ 130 → i + n ≤ l.length → (∀ j, j < n → l.getD (k + j) 0 = l.getD (i + j) 0) → ∃ m, lz_alike.l0 f l (k : Int) (i : Int) (n : Int) = some ((m : Nat) : Int) ∧ Alike l k i m
  | 0, n, h, h1, h2, h3 => by omega
  | f + 1, n, h, h1, h2, h3 => by
    have e1 : wrap64 ((i : Int) + (n : Int)) = ((i + n : Nat) : Int) := by unfold wrap64; omega
    have e2 : wrap64 ((k : Int) + (n : Int)) = ((k + n : Nat) : Int) := by unfold wrap64; omega
    have e3 : wrap64 ((n : Int) + 1) = ((n + 1 : Nat) : Int) := by unfold wrap64; omega
    rw [lz_alike.l0, e1, e2, e3]
    by_cases c1 : (n : Int) < 130
    · rw [if_pos c1]
      by_cases c2 : ((i + n : Nat) : Int) < (l.length : Int)
      · rw [if_pos c2, if_pos (by omega), if_pos (by omega), if_pos (by omega)]
        have r1 : rd l ((k + n : Nat) : Int) = l.getD (k + n) 0 := by unfold rd; rw [Int.toNat_natCast]
        have r2 : rd l ((i + n : Nat) : Int) = l.getD (i + n) 0 := by unfold rd; rw [Int.toNat_natCast]
        rw [r1, r2]
        by_cases c3 : l.getD (k + n) 0 = l.getD (i + n) 0
        · rw [if_pos c3]
          refine alike_l0 l hl k i hk hi f (n + 1) (by omega) (by omega) (by omega) fun j hj => ?_
          rcases Nat.lt_or_ge j n with hj2 | hj2
          · exact h3 j hj2
          · obtain rfl : j = n := by omega
            exact c3
        · rw [if_neg c3]
          exact ⟨n, rfl, h1, h2, h3, .inr (.inr c3)⟩
      · rw [if_neg c2]
        exact ⟨n, rfl, h1, h2, h3, .inr (.inl (by omega))⟩
    · rw [if_neg c1]
      exact ⟨n, rfl, h1, h2, h3, .inl (by omega)⟩
theorem alike_c (l : List Int) (hl : l.length ≤ 1000000) (k i : Nat) (hk : k < i) (hi : i ≤ l.length) : ∃ n, Alike l k i n ∧ ∀ (w : World) (A : Option Addr) (c : Nat), Kd.C (Kd.int .u8) w A l.length l → l.length ≤ c →
    Calls Try.prog 30 #[.slice A l.length c, .int .i64 (k : Int), .int .i64 (i : Int)] w (Tells w (Is (.int .i64 (n : Int)))) := by
  obtain ⟨m, h1, h2⟩ := alike_l0 l hl k i hk hi 131 0 rfl (by omega) (by omega) (fun j hj => by omega)
  exact ⟨m, h2, fun w A c hr hc => tells_is ((lz_alike.calls 131 A c l _ _ _ w hr hc (by unfold lz_alike.f; exact h1)).mono fun _ _ ⟨h, k⟩ => ⟨h, k.below⟩)⟩
end Go.Proofs.Ytehbebpemnanoaa.F

-- Grp
namespace Go.Proofs.Ytehbebpemnanoaa.F
open Go Go.RowKit Go.Proofs.YtehbebpemnanoaaW.PrintWords Go.Proofs.YtehbebpemnanoaaW.PrintLast Go.Proofs.YtehbebpemnanoaaW.PrintMore Go.Proofs.YtehbebpemnanoaaR
open Go.ChangeMaps Go.MapKept Go.ChangeShapes
open Go.WideElems (Fit rd rg pl rd_val elemAt)
open Go.Maps (Keyed)
set_option linter.unusedSimpArgs false
set_option linter.unusedVariables false
section
variable {H : Type} {P : Program} {k : TypeId} {w w' : World} {base : Nat} {e : TypeId} {q : IntKind} {b n : Nat} {D : DataW H}
theorem ints_move {v : Value} {zs : List Int} (h : w.ownsInts base e q v zs) (hm : ∀ g, v.ownBlock = some g → w'.heap[g]? = w.heap[g]?) : w'.ownsInts base e q v zs := ⟨own_move h.1 hm, h.2⟩
theorem own_cells {size n : Nat} {v : Value} {xs : List Value} (h : w.ownsRow base e size v n xs) {g : Nat} (hg : v.ownBlock = some g) : ∃ cur, w.heap[g]? = some (.cells cur e (0, 0)) := by
  rcases h.2 with ⟨rfl, _⟩ | ⟨g', cap, cur, rfl, _, hh, _⟩
  · simp [Value.ownBlock] at hg
  · have : g' = g := by simpa [Value.ownBlock] using hg
    subst this
    exact ⟨cur, hh⟩
theorem groups_move (h : w.ownsGroups P k base e q b n D) (hb' : w'.heap[b]? = w.heap[b]?)
    (hrow : ∀ g, base ≤ g → g < w.heap.size → (∃ cur, w.heap[g]? = some (.cells cur e (0, 0))) → (∀ es clock, w.heap[b]? = some (.map es clock) → ∃ x ∈ es.toList, x.val.ownBlock = some g) → w'.heap[g]? = w.heap[g]?) : w'.ownsGroups P k base e q b n D := by
  obtain ⟨es, clock, hb, F, hs, rfl, hbb, hlen, hap⟩ := h
  have hmv : ∀ x ∈ es.toList, ∀ zs, w.ownsInts base e q x.val zs → w'.ownsInts base e q x.val zs := fun x hx zs ho => ints_move ho fun g hg => hrow g (ho.1.lt g hg).1 (ho.1.lt g hg).2 (own_cells ho.1 hg) fun es' clock' hb2 => by
    obtain ⟨rfl, rfl⟩ : es = es' ∧ clock = clock' := by rw [hb] at hb2; simpa using hb2
    exact ⟨x, hx, hg⟩
  have hst : ∀ x ∈ es.toList, ∀ z, rowElem (H := H) w base e q x.val = some z → rowElem w' base e q x.val = some z := fun x hx z hz => by
    obtain ⟨zs, ho, rfl⟩ := rowElem_inv hz
    exact rowElem_mk (hmv x hx zs ho)
  obtain ⟨F1, hmap, _⟩ := F.stay hst
  refine ⟨es, clock, hb'.trans hb, F1, hs, by rw [hmap], hbb, fun x hx zs ho => ?_, hap⟩
  obtain ⟨y, hy⟩ := F.reads x hx
  obtain ⟨z, hz, _⟩ := rd_val hy
  obtain ⟨zs0, ho0, _⟩ := rowElem_inv hz
  rw [ho.unique (hmv x hx zs0 ho0)]
  exact hlen x hx zs0 ho0
theorem groups_upd {S : Nat → Prop} (h : w.ownsGroups P k base e q b n D) (hu : Upd S w w') (hb : ¬ S b) (hS : ∀ g, base ≤ g → ¬ S g) : w'.ownsGroups P k base e q b n D := by
  have hlt : b < w.heap.size := by
    obtain ⟨es, clock, hb, _⟩ := h
    exact (Array.getElem?_eq_some_iff.1 hb).1
  exact groups_move h (hu.block b hlt hb) fun g hg hg2 _ _ => hu.block g hg2 (hS g hg)
theorem groups_lt (h : w.ownsGroups P k base e q b n D) : b < w.heap.size ∧ b < base := by
  obtain ⟨es, clock, hb, _, _, _, hbb, _⟩ := h
  exact ⟨(Array.getElem?_eq_some_iff.1 hb).1, hbb⟩
/-- a look-up, in whatever world that has this map -/
theorem groups_at {t E : TypeId} {key : Value} {kl : Lit} (h : w.ownsGroups P k base e q b n D) (K : Keyed P k) (ht : P.underlying t = some (.map k E)) (hz : ∀ w, (zeroValue E).run P w = .ok (.slice none 0 0) w) (hn : n < maxLen) (hkey : keyOf P k key = some kl) :
    ∃ v zs, (∀ wx : World, wx.heap[b]? = w.heap[b]? → (Instr.lookup t (.map (some b)) key false).run P wx = .ok v wx) ∧ D.atKey kl .nil = rowDatum q v zs ∧ w.ownsInts base e q v zs ∧ zs.length ≤ n ∧ w.groupBack P t k base e q b n D key kl v ∧ (∀ No : Nat → Prop, w.Shuns b No → ∀ g, v.ownBlock = some g → ¬ No g) := by
  obtain ⟨es, clock, hb, F, hs, rfl, hbb, hlen, hap⟩ := h
  rcases Maps.fit_look false K ht (hz w) hb F hkey with ⟨hrun, hno, hat⟩ | ⟨e0, y, hm0, h3, hrun, hR, hat, _⟩
  · refine ⟨.slice none 0 0, [], fun wx hx => ?_, hat _, World.ownsInts_nil _ _ _ _, Nat.zero_le _, groups_back K ht hb F hs hn hbb hlen hap hkey (fun x _ _ => ?_) (by simp [Value.ownBlock]), fun _ _ g hg => by cases hg⟩
    · rcases Maps.fit_look false K ht (hz wx) (hx.trans hb) F hkey with ⟨hr, _, _⟩ | ⟨e0, y, hm0, h3, _⟩
      · exact hr
      · exact absurd h3 (hno e0 hm0)
    · cases x.val.ownBlock <;> simp [Value.ownBlock]
  · obtain ⟨zs, ho, rfl⟩ := rowElem_inv hR
    refine ⟨e0.val, zs, fun wx hx => ?_, hat _, ho, hlen e0 hm0 zs ho, groups_back K ht hb F hs hn hbb hlen hap hkey (fun x hx hne => hap x hx e0 hm0 (by rw [h3]; exact hne)) (fun e1 => ?_), fun No hsh g hg => hsh es clock hb e0 hm0 g hg⟩
    · rcases Maps.fit_look false K ht (hz wx) (hx.trans hb) F hkey with ⟨hr, hno, _⟩ | ⟨e1, y, hm1, h4, hr, _⟩
      · exact absurd h3 (hno e0 hm0)
      · have := entry_eq_of_key ((stamped_iff _ _).1 F.stamped).2.2 hm1 hm0 (h4.trans h3.symm)
        rw [this] at hr
        exact hr
    · have := (ho.1.lt b e1).1
      omega
/-- behind a store by the way back, the groups still shun what they shunned -/
theorem back_shuns {t E : TypeId} {key : Value} {kl : Lit} {w0 w1 w2 : World} {v v' : Value} {zs : List Int} {No : Nat → Prop} (K : Keyed P k) (ht : P.underlying t = some (.map k E)) (hkey : keyOf P k key = some kl) (hown0 : w0.ownsGroups P k base e q b n D) (hn : n < maxLen) (hu : w0.ownsInts base e q v zs) (hsh : w0.Shuns b No) (hno : ∀ g, v'.ownBlock = some g → ¬ No g)
    (hgr : w0.grownBy w1 v.ownBlock) (hrun : (Instr.mapUpdate t (.map (some b)) key v').run P w1 = .ok () w2) : w2.Shuns b No := by
  obtain ⟨es, clock, hb, F, hs, _, hbb, _⟩ := hown0
  have hblt : b < w0.heap.size := (Array.getElem?_eq_some_iff.1 hb).1
  have hb1 : w1.heap[b]? = some (.map es clock) := (hgr.block b hblt (fun e1 => by have := (hu.1.lt b e1.symm).1; omega)).trans hb
  obtain ⟨es', clock', hb2, hwho⟩ := stored_who K ht hb1 F (Nat.lt_of_le_of_lt hs hn) hkey hrun
  intro es2 clock2 hb2' y hy g hyg
  obtain ⟨rfl, rfl⟩ : es' = es2 ∧ clock' = clock2 := by rw [hb2] at hb2'; simpa using hb2'
  rcases hwho y hy with ⟨hy0, _⟩ | ⟨_, hval⟩
  · exact hsh es clock hb y hy0 g hyg
  · exact hno g (hval ▸ hyg)
theorem shuns_move {No : Nat → Prop} (h : w.Shuns b No) (hb : w'.heap[b]? = w.heap[b]?) : w'.Shuns b No := fun es clock hb' => h es clock (hb.symm.trans hb')
theorem row_cell {w : World} {k : IntKind} {A : Option Addr} {l : List Int} (h : Kd.C (Kd.int k) w A l.length l) (i : Nat) (hi : i < l.length) : ∃ ad, A = some ad ∧ w.cell? (ad.add i) = some (.int k (l.getD i 0)) := by
  obtain ⟨ad, hA, hc⟩ := (reads_of h).at_ (i : Int) (by omega) (by omega)
  exact ⟨ad, hA, by simpa [Go.Proofs.YtehbebpemnanoaaW.PrintWords.rd] using hc⟩
theorem late_upd {W wx : World} {row : Option Nat} (h : Grew W wx ∨ ∃ w1, Grew W w1 ∧ w1.grownBy wx row) : Upd (fun k => row = some k) W wx := by
  rcases h with h | ⟨w1, h1, h2⟩
  · exact Upd.of_grew h
  · exact (Upd.of_grew h1).grown h2 fun k hk => .inl hk
theorem Upd.grownBy_none {a b : World} (h : Upd (fun _ => False) a b) (row : Option Nat) : a.grownBy b row := ⟨h.os, h.tape, h.output, h.size, fun i hi _ => h.block i hi (fun h => h)⟩
/-- a slice of one element of some cells in a block of its own, which is not the row that is written -/
def OneC (e : TypeId) (cs : List Value) (vb : Value) : World → Value → Prop := fun w v => ∃ g1, v = .slice (some ⟨g1, 0, none⟩) 1 1 ∧ Blk w g1 e cs ∧ some g1 ≠ vb.ownBlock
theorem OneC.stableB (e : TypeId) (cs : List Value) (vb : Value) : ∀ w w' v, Grew w w' ∨ w.grownBy w' vb.ownBlock → OneC e cs vb w v → OneC e cs vb w' v :=
  fun _ _ _ hr ⟨g1, h1, h2, h3⟩ => ⟨g1, h1, hr.elim h2.grew (fun hg => blk_grown h2 hg h3), h3⟩
theorem OneC.stable (e : TypeId) (cs : List Value) (vb : Value) : ∀ w w' v, Grew w w' → OneC e cs vb w v → OneC e cs vb w' v := fun w w' v hg => OneC.stableB e cs vb w w' v (.inl hg)
theorem OneC.new {w : World} {e : TypeId} {cs : List Value} {vb : Value} (h : ∀ k, vb.ownBlock = some k → k < w.heap.size) : OneC e cs vb (w.alloc (.cells cs.toArray e)) (.slice (some ⟨w.heap.size, 0, none⟩) 1 1) :=
  ⟨_, rfl, Blk.new w e cs, fun he => by have := h _ he.symm; omega⟩
/-- the row behind an append -/
def AppS (base : Nat) (e : TypeId) (size : Nat) (cs : List Value) (n : Nat) (vb : Value) (N : Nat) : World → Value → Prop := fun w v => w.ownsRow base e size v n cs ∧ (v.ownBlock = vb.ownBlock ∨ ∃ k, v.ownBlock = some k ∧ N ≤ k)
/-- one element, of some cells in a block of its own, behind a row of one's own -/
theorem app_cells {P : Program} (W : World) (base : Nat) (t e ty : TypeId) (z : Value) (size bytes : Nat) (ht : P.underlying t = some (.slice e)) (hinfo : (P.info? e).map (fun i => (i.zero, i.size, i.bytes)) = some (some z, size, bytes)) (hz : z.cells.size = size) (hs0 : 0 < size) (hb0 : 0 < bytes)
    (v : Value) (n : Nat) (xs : List Value) (g1 : Nat) (cs : List Value) (hcs : cs.length = size) (h1 : ∀ u ∈ cs, u.oneCell' = true) (HO : W.ownsRow base e size v n xs) (HB : Blk W g1 e cs) (hbase : base ≤ W.heap.size) (hl : (n + 1) * bytes ≤ 140737488355328) :
    ∃ v1 w1, (Builtin.append_ #[t, t] ty #[v, .slice (some ⟨g1, 0, none⟩) 1 1]).run P W = .ok v1 w1 ∧ w1.ownsRow base e size v1 (n + 1) (xs ++ cs) ∧ W.grownBy w1 v.ownBlock ∧ (v1.ownBlock = v.ownBlock ∨ ∃ k, v1.ownBlock = some k ∧ W.heap.size ≤ k) := by
  obtain ⟨i0, hi, hzz⟩ := Option.map_eq_some_iff.1 hinfo
  simp only [Prod.mk.injEq] at hzz
  obtain ⟨hz0, hz1, hz2⟩ := hzz
  have hlen : n + 1 ≤ 140737488355328 := Nat.le_trans (Nat.le_mul_of_pos_right _ hb0) hl
  obtain ⟨v1, w1, hr, h2, h3, _, h5⟩ := run_append_own_at (P := P) W base t ty e i0 z size bytes ht hi hz0 hz1 hz2 hz hs0 v n xs HO ⟨g1, 0, none⟩ 1 1 cs (by rw [hcs]; simp)
    (fun j u hu => by rw [add_plain, HB.at_]; simpa using hu) h1 (by simp only [maxLen]; omega) hl hbase
  exact ⟨v1, w1, hr, h2, h3, h5.imp id fun h => ⟨_, h, Nat.le_refl _⟩⟩
/-- a string behind a row of bytes of one's own -/
theorem app_str {P : Program} (W : World) (base : Nat) (t u ty e : TypeId) (ht : P.underlying t = some (.slice e)) (hu : P.underlying u = some .string) (hinfo : (P.info? e).map (fun i => (i.zero, i.size, i.bytes)) = some (some (.int .u8 0), 1, 1))
    (v : Value) (xs : List Int) (y : ByteArray) (HO : W.ownsRow base e 1 v xs.length (nums .u8 xs)) (hbase : base ≤ W.heap.size) (hl : xs.length + y.size ≤ 140737488355328) :
    ∃ v1 w1, (Builtin.append_ #[t, u] ty #[v, .string y]).run P W = .ok v1 w1 ∧ w1.ownsRow base e 1 v1 (xs ++ bytesOf y).length (nums .u8 (xs ++ bytesOf y)) ∧ W.grownBy w1 v.ownBlock := by
  obtain ⟨i0, hi, hzz⟩ := Option.map_eq_some_iff.1 hinfo
  simp only [Prod.mk.injEq] at hzz
  obtain ⟨hz0, hz1, hz2⟩ := hzz
  obtain ⟨v1, w1, hr, h2, h3, _⟩ := Lib.run_append_own_string (P := P) (w := W) base t u ty e i0 ht hu hi hz0 hz1 hz2 v xs.length (nums .u8 xs) HO y (by simp only [maxLen]; omega) hl hbase
  refine ⟨v1, w1, hr, ?_, h3⟩
  have hl2 : (xs ++ bytesOf y).length = xs.length + y.size := by rw [List.length_append, bytesOf_length]
  have hc : nums .u8 (xs ++ bytesOf y) = nums .u8 xs ++ Lib.strCells y := by
    rw [nums_append]
    congr 1
    simp [nums, bytesOf, Lib.strCells]
  rw [hl2, hc]
  exact h2
/-- any append by the equation of its run -/
theorem wpList_app2 {P : Program} {ops : Array Oper} {rest : List Oper} {o : Oper} {a : Act} {w : World} {Q : Exit → Act → World → Prop} (hgd : o.guard = none) (s x : Operand) (t u : TypeId)
    (ho : o.op = .call { callee := .builtin .append, args := #[s, x], argTypes := #[t, u] }) {v y : Value} (hs : a.eval s = v) (hx : a.eval x = y) {v1 : Value} {w1 : World}
    (hr : (Builtin.append_ #[t, u] o.type #[v, y]).run P w = .ok v1 w1) (h : wpList P ops Q rest (a.put o.dst v1) w1) : wpList P ops Q (o :: rest) a w :=
  wpList_plain hgd fun K hK => by
    unfold Oper.wp execOp
    simp only [ho, resolve, invoke, builtin, Sem.run_bind, Sem.run_pure, Result.andThen_ok, List.map_toArray, List.map_cons, List.map_nil, hs, hx, hr]
    exact hK _ _ h
/-- a row of one's own with nothing in it, and room -/
theorem make_own {P : Program} (W : World) (base : Nat) (t e : TypeId) (z : Value) (size bytes : Nat) (ht : P.underlying t = some (.slice e)) (hinfo : (P.info? e).map (fun i => (i.zero, i.size, i.bytes)) = some (some z, size, bytes)) (c : Nat) (hb : bytes * c ≤ 281474976710656) (hc : c ≤ 9223372036854775807) (hbase : base ≤ W.heap.size) :
    ∃ w', (Instr.makeSlice t (.int .i64 0) (.int .i64 (c : Int))).run P W = .ok (.slice (some ⟨W.heap.size, 0, none⟩) 0 c) w' ∧ w'.ownsRow base e size (.slice (some ⟨W.heap.size, 0, none⟩) 0 c) 0 [] ∧ Grew W w' := by
  obtain ⟨i0, hi, hzz⟩ := Option.map_eq_some_iff.1 hinfo
  simp only [Prod.mk.injEq] at hzz
  obtain ⟨hz0, hz1, hz2⟩ := hzz
  obtain ⟨w', h1, h2, h3⟩ := run_make_own (P := P) (w := W) base t e i0 z size ht hi hz0 hz1 .i64 .i64 c (by rw [hz2]; exact hb) (by unfold maxLen; exact hc) hbase
  exact ⟨w', h1, h2, (Upd.of_grown h3).grew fun i _ h => by cases h⟩
/-- a whole row behind one's own -/
theorem app_many {P : Program} (W : World) (base : Nat) (t e ty : TypeId) (z : Value) (size bytes : Nat) (ht : P.underlying t = some (.slice e)) (hinfo : (P.info? e).map (fun i => (i.zero, i.size, i.bytes)) = some (some z, size, bytes)) (hz : z.cells.size = size) (hs0 : 0 < size) (hb0 : 0 < bytes)
    (v : Value) (n : Nat) (xs : List Value) (A : Option Addr) (m c : Nat) (news : List Value) (hcs : news.length = m * size) (h1 : ∀ u ∈ news, u.oneCell' = true) (hc : 0 < m → ∃ ad, A = some ad ∧ ∀ j u, news[j]? = some u → W.cell? (ad.add j) = some u)
    (HO : W.ownsRow base e size v n xs) (hbase : base ≤ W.heap.size) (hl : (n + m) * bytes ≤ 140737488355328) :
    ∃ v1 w1, (Builtin.append_ #[t, t] ty #[v, .slice A m c]).run P W = .ok v1 w1 ∧ w1.ownsRow base e size v1 (n + m) (xs ++ news) ∧ W.grownBy w1 v.ownBlock ∧ (v1.ownBlock = v.ownBlock ∨ ∃ k, v1.ownBlock = some k ∧ W.heap.size ≤ k) := by
  obtain ⟨i0, hi, hzz⟩ := Option.map_eq_some_iff.1 hinfo
  simp only [Prod.mk.injEq] at hzz
  obtain ⟨hz0, hz1, hz2⟩ := hzz
  have hlen : n + m ≤ 140737488355328 := Nat.le_trans (Nat.le_mul_of_pos_right _ hb0) hl
  rcases Nat.eq_zero_or_pos m with h0 | hpos
  · subst h0
    obtain rfl : news = [] := List.eq_nil_of_length_eq_zero (by simpa using hcs)
    refine ⟨v, W, ?_, by simpa using HO, World.grownBy.refl W _, .inl rfl⟩
    have hld : ∀ ad : Addr, (loadCells ad 0).run P W = .ok #[] W := fun ad => by simpa using run_loadCells_list (P := P) W ad [] (by simp)
    rcases HO.2 with ⟨rfl, hn⟩ | ⟨g, cap, cur, rfl, _, _, hnc, _⟩
    · cases A <;> simp [Builtin.append_, run_underlying ht, sizeOf, typeInfo, hi, Builtin.lenOf, Builtin.firstCells, hld]
    · cases A <;> simp [Builtin.append_, run_underlying ht, sizeOf, typeInfo, hi, Builtin.lenOf, Builtin.firstCells, hnc, storeCells, hld]
  · obtain ⟨ad, rfl, hcells⟩ := hc hpos
    obtain ⟨v1, w1, hr, h2, h3, _, h5⟩ := run_append_own_at (P := P) W base t ty e i0 z size bytes ht hi hz0 hz1 hz2 hz hs0 v n xs HO ad m c news hcs hcells h1 (by simp only [maxLen]; omega) hl hbase
    exact ⟨v1, w1, hr, h2, h3, h5.imp id fun h => ⟨_, h, Nat.le_refl _⟩⟩
/-- a store into a map by the equation of its run -/
theorem wpList_mapUpdate_run {P : Program} {w w2 : World} {ops : Array Oper} {rest : List Oper} {o : Oper} {a : Act} {Q : Exit → Act → World → Prop}
    (hg : o.guard = none) (m x v : Operand) (t : TypeId) (hop : o.op = Op.mapUpdate t m x v) {vm vx vv : Value} (hm : a.eval m = vm) (hx : a.eval x = vx) (hv : a.eval v = vv)
    (hrun : (Instr.mapUpdate t vm vx vv).run P w = .ok () w2) (hK : wpList P ops Q rest (a.put o.dst undef) w2) : wpList P ops Q (o :: rest) a w := by
  refine wpList_plain hg fun K' hK' => ?_
  unfold Oper.wp
  simp [execOp, hop, hm, hx, hv, hrun, Result.andThen]
  exact hK' _ _ hK
end
end Go.Proofs.Ytehbebpemnanoaa.F

-- MapI
namespace Go.Proofs.Ytehbebpemnanoaa.F
open Go Go.RowKit Go.Proofs.YtehbebpemnanoaaW.PrintWords Go.Proofs.YtehbebpemnanoaaW.PrintLast Go.Proofs.YtehbebpemnanoaaW.PrintMore Go.Proofs.YtehbebpemnanoaaR
open Go.Maps (Keyed)
set_option linter.unusedSimpArgs false
set_option linter.unusedVariables false
/-- block b is a map of at most N entries that has just what M says -/
def MapI (w : World) (P : Program) (k e : TypeId) (b N : Nat) (M : Lit → Option Int) : Prop :=
  ∃ D : DataW Unit, w.ownsMap P k (plainElem P e) b N D ∧ ∀ kl, WideAt.IsKeyLit kl → (M kl = none → Maps.has D kl = false) ∧ ∀ v, M kl = some v → Maps.has D kl = true ∧ ∀ z, D.atKey kl z = .lit (.int .i64 v)
open Classical in
/-- M, but for one key -/
noncomputable def setM (M : Lit → Option Int) (kl : Lit) (v : Int) : Lit → Option Int := fun x => if x = kl then some v else M x
theorem setM_same (M : Lit → Option Int) (kl : Lit) (v : Int) : setM M kl v kl = some v := by unfold setM; rw [if_pos rfl]
theorem setM_other (M : Lit → Option Int) {kl x : Lit} (v : Int) (h : x ≠ kl) : setM M kl v x = M x := by unfold setM; rw [if_neg h]
section
variable {P : Program} {k e t : TypeId} {w w' : World} {b N : Nat} {M : Lit → Option Int}
theorem mapI_made (w : World) (P : Program) (k e : TypeId) : MapI (w.alloc (.map #[] 0)) P k e w.heap.size 0 (fun _ => none) :=
  ⟨_, World.ownsMap_made w P k _, fun kl _ => ⟨fun _ => rfl, fun v h => by cases h⟩⟩
theorem MapI.move (h : MapI w P k e b N M) (hb : w'.heap[b]? = w.heap[b]?) : MapI w' P k e b N M := by
  obtain ⟨D, ⟨es, clock, h1, h2⟩, h3⟩ := h
  exact ⟨D, ⟨es, clock, hb.trans h1, h2⟩, h3⟩
theorem MapI.lt (h : MapI w P k e b N M) : b < w.heap.size := by
  obtain ⟨D, ⟨es, clock, h1, _⟩, _⟩ := h
  exact (Array.getElem?_eq_some_iff.1 h1).1
theorem MapI.at_ (h : MapI w P k e b N M) : ∃ es clock, w.heap[b]? = some (.map es clock) := by
  obtain ⟨D, ⟨es, clock, h1, _⟩, _⟩ := h
  exact ⟨es, clock, h1⟩
theorem MapI.mono {N2 : Nat} (h : MapI w P k e b N M) (hn : N ≤ N2) : MapI w P k e b N2 M := by
  obtain ⟨D, h1, h2⟩ := h
  exact ⟨D, h1.mono hn, h2⟩
theorem MapI.upd {S : Nat → Prop} (h : MapI w P k e b N M) (hu : Upd S w w') (hb : ¬ S b) : MapI w' P k e b N M := h.move (hu.block b h.lt hb)
theorem MapI.ne_blk (h : MapI w P k e b N M) {g : Nat} {ty : TypeId} {cs : List Value} (hg : Blk w g ty cs) : b ≠ g := by
  obtain ⟨es, clock, hb⟩ := h.at_
  intro e
  unfold Blk at hg
  rw [← e, hb] at hg
  cases hg
theorem MapI.ne_own (h : MapI w P k e b N M) {base n size : Nat} {ty : TypeId} {v : Value} {xs : List Value} (ho : w.ownsRow base ty size v n xs) : v.ownBlock ≠ some b := by
  obtain ⟨es, clock, hb⟩ := h.at_
  intro e
  obtain ⟨cur, hc⟩ := own_cells ho e
  rw [hb] at hc
  cases hc
theorem MapI.look (h : MapI w P k e b N M) (K : Keyed P k) (ht : P.underlying t = some (.map k e)) (he : P.underlying e = some (.int .i64)) (hz : (zeroValue e).run P w = .ok (.int .i64 0) w) {key : Value} {kl : Lit} (hkey : keyOf P k key = some kl) :
    (Instr.lookup t (.map (some b)) key true).run P w = .ok (.tuple #[.int .i64 ((M kl).getD 0), .bool (M kl).isSome]) w := by
  obtain ⟨D, ho, hM⟩ := h
  obtain ⟨v, ps, hrun, hR⟩ := ho.look_ok K ht hz (zd := .lit (.int .i64 0)) (zp := []) (plainElem_int he (by decide)) hkey
  obtain ⟨h0, h1⟩ := hM kl (K.key hkey)
  obtain ⟨a, rfl, hz2, -⟩ := plainElem_int_inv he hR
  cases hm : M kl with
  | none =>
    have hh := h0 hm
    rw [hh] at hrun
    rw [Maps.atKey_of_not_has hh] at hz2
    obtain rfl : (0 : Int) = a := (show (0 : Int) = a ∧ ps = [] from by simpa using hz2).1
    simpa using hrun
  | some v =>
    obtain ⟨hh, hat⟩ := h1 v hm
    rw [hh] at hrun
    rw [hat] at hz2
    obtain rfl : v = a := (show v = a ∧ ps = [] from by simpa using hz2).1
    simpa using hrun
theorem MapI.store (h : MapI w P k e b N M) (K : Keyed P k) (ht : P.underlying t = some (.map k e)) (he : P.underlying e = some (.int .i64)) (hn : N < maxLen) {key : Value} {kl : Lit} (hkey : keyOf P k key = some kl) (v : Int) (hv : (Lit.int .i64 v).wf = true) :
    ∃ w', (Instr.mapUpdate t (.map (some b)) key (.int .i64 v)).run P w = .ok () w' ∧ MapI w' P k e b (N + 1) (setM M kl v) ∧ Upd (fun g => g = b) w w' := by
  obtain ⟨D, ho, hM⟩ := h
  obtain ⟨w', hrun, ho', hg⟩ := ho.update K ht hn hkey (plainElem_int he hv)
  refine ⟨w', hrun, ⟨_, ho', fun x hx => ?_⟩, (Upd.of_grown hg).mono fun i _ h => (Option.some.inj h).symm⟩
  have hk := K.key hkey
  by_cases hxk : x = kl
  · subst hxk
    refine ⟨(fun h => by rw [setM_same] at h; exact absurd h (by simp)), fun u h => ?_⟩
    rw [setM_same] at h
    obtain rfl := Option.some.inj h
    exact ⟨Maps.has_put_same ho.isMap hk _, fun z => Maps.atKey_put_same ho.isMap hk _ z⟩
  · obtain ⟨h0, h1⟩ := hM x hx
    refine ⟨fun h => ?_, fun u h => ?_⟩
    · rw [setM_other _ _ hxk] at h
      rw [Maps.has_put_other hxk]
      exact h0 h
    · rw [setM_other _ _ hxk] at h
      obtain ⟨h2, h3⟩ := h1 u h
      exact ⟨by rw [Maps.has_put_other hxk]; exact h2, fun z => by rw [Maps.atKey_put_other hxk]; exact h3 z⟩
end
end Go.Proofs.Ytehbebpemnanoaa.F

-- RegB
namespace Go.Proofs.YtehbebpemnanoaaR
open Go Go.RowKit
section
variable (P : Program) (Q : Exit → Act → World → Prop) (R Rp : World → World → Prop) (V : Nat → World → Value → Prop) (a0 : Act) (w0 : World) (E : Act → World → Prop)
def PhGoalF (o : Oper) (g : GuardT) (i : Nat) (r : Reads) : Phase → Prop
  | .plain => ∀ a w, R w0 w → Deps V a0 a w r → OpGoal P Q R V o g i a w
  | .float => ∀ a w, (R w0 w ∨ ∃ w1, R w0 w1 ∧ Rp w1 w) → Deps V a0 a w r → OpGoal P Q (fun w w' => w' = w) V o g i a w
  | .big => o.guard = none ∧ ∀ a w, R w0 w → Deps V a0 a w r → ∀ K : Act → World → Prop, (∀ v w', Rp w w' → V i w' v → K (a.put o.dst v) w') → o.wp P a w K Q
def PhHoldF : Nat → List Oper → List (Reads × GuardT) → List Phase → Prop
  | i, o :: os, (r, g) :: rs, k :: ks => PhGoalF P Q R Rp V a0 w0 o g i r k ∧ PhHoldF (i + 1) os rs ks
  | _, _, _, _ => True
end

section
variable {P : Program} {ops : Array Oper} {Q : Exit → Act → World → Prop} {R Rp : World → World → Prop} {V : Nat → World → Value → Prop} {a0 : Act} {w0 : World} {E : Act → World → Prop}
theorem phHold_atF : ∀ (os : List Oper) (rs : List (Reads × GuardT)) (ks : List Phase) (k i : Nat) (o : Oper) (r : Reads) (g : GuardT) (p : Phase), PhHoldF P Q R Rp V a0 w0 k os rs ks → os[i]? = some o → rs[i]? = some (r, g) → ks[i]? = some p →
    PhGoalF P Q R Rp V a0 w0 o g (k + i) r p
  | [], _, _, _, i, o, r, g, p, _, ho, _, _ => by simp at ho
  | o' :: os, [], _, _, i, o, r, g, p, _, _, hr, _ => by simp at hr
  | o' :: os, (r', g') :: rs, [], _, i, o, r, g, p, _, _, _, hk => by simp at hk
  | o' :: os, (r', g') :: rs, p' :: ks, k, 0, o, r, g, p, h, ho, hr, hk => by
    simp at ho hr hk
    obtain ⟨rfl, rfl⟩ := hr
    subst ho
    subst hk
    exact h.1
  | o' :: os, (r', g') :: rs, p' :: ks, k, i + 1, o, r, g, p, h, ho, hr, hk => by
    have := phHold_atF os rs ks (k + 1) i o r g p h.2 (by simpa using ho) (by simpa using hr) (by simpa using hk)
    rw [show k + 1 + i = k + (i + 1) from by omega] at this
    exact this
theorem wpAny_invF {A : List Nat} {reads : List (Reads × GuardT)} {ks : List Phase} (hA : edgesOk ops A = true) (hP : pairsOk ops A = true) (hR : readsOk ops reads a0.tmps.size = true) (hT : tailOk ops A reads.length = true)
    (hrf : ∀ w, R w w) (htr : ∀ a b c, R a b → R b c → R a c) (hK : phaseOk A ks reads.length = true)
    (hst : ∀ i, ks[i]? ≠ some .big → ∀ w w' v, R w w' ∨ Rp w w' → V i w v → V i w' v)
    (hops : PhHoldF P Q R Rp V a0 w0 0 ops.toList reads ks)
    (hend : ∀ listed a w, (∀ j, listed.getD j false = decide (j < reads.length)) → InvB ops reads.length R Rp V ks a0 w0 listed a w → wpList P ops Q (ops.toList.drop reads.length) a w) :
    ∀ (fuel : Nat) (listed : Array Bool) (a : Act) (w : World), listed.toList.count false ≤ fuel → InvB ops reads.length R Rp V ks a0 w0 listed a w → wpAny P .any ops Q fuel listed a w := by
  have hT0 := hT
  simp only [tailOk, Bool.and_eq_true, decide_eq_true_eq, List.all_eq_true, Bool.or_eq_true, List.mem_range] at hT0
  -- when all of the head has come up
  have fin : ∀ (fuel : Nat) (listed : Array Bool) (a : Act) (w : World), listed.toList.count false ≤ fuel → InvB ops reads.length R Rp V ks a0 w0 listed a w → (∀ j, j < reads.length → listed.getD j false = true) → wpAny P .any ops Q fuel listed a w := by
    intro fuel listed a w hf hi hall
    have hl : ∀ j, listed.getD j false = decide (j < reads.length) := by
      intro j
      rcases Nat.lt_or_ge j reads.length with h | h
      · rw [hall j h]; simp [h]
      · rw [hi.tail j h]; simp; omega
    refine wpAny_tail hA hT fuel reads.length listed a w (Nat.le_refl _) ?_ hT0.1 hi.lsize hl (hend listed a w hl hi)
    -- those that are not listed are as many as the tail is long
    have : (listed.toList.drop reads.length).count false = listed.size - reads.length := by
      have h1 : listed.toList.drop reads.length = List.replicate (listed.size - reads.length) false := by
        refine List.ext_getElem (by simp) fun j h1 h2 => ?_
        simp only [List.getElem_drop, List.getElem_replicate]
        have h3 : reads.length + j < listed.size := by simp at h1; omega
        have h4 := hi.tail (reads.length + j) (by omega)
        simpa [h3] using h4
      rw [h1, List.count_replicate_self]
    have h2 : (listed.toList.drop reads.length).count false ≤ listed.toList.count false := List.Sublist.count_le _ (List.drop_sublist _ _)
    have := hi.lsize
    omega
  -- before that, nothing of the tail may come up
  have low : ∀ (listed : Array Bool), listed.size = ops.size → Closed ops listed → ∀ i, i ∈ Region.ready .any ops listed → reads.length ≤ i → ∀ j, j < reads.length → listed.getD j false = true := by
    intro listed hs hc i hi hm j hj
    obtain ⟨hun, o, ho, hd⟩ := mem_ready.1 hi
    have hisz := (Array.getElem?_eq_some_iff.1 ho).1
    exact closed_anc hA hc i o ho hd j ((hT0.2 i hisz).resolve_left (by omega) j (by omega))
  intro fuel
  induction fuel with
  | zero =>
    intro listed a w hf hi
    refine fin 0 listed a w hf hi fun j hj => ?_
    have hjs : j < listed.size := by have := hi.lsize; omega
    cases hl : listed.getD j false with
    | true => rfl
    | false =>
      exfalso
      have hv : listed[j] = false := by simpa [hjs] using hl
      have : 0 < listed.toList.count false := List.count_pos_iff.2 (by rw [← hv]; simp)
      omega
  | succ fuel ih =>
    intro listed a w hf hi
    by_cases hall : ∀ j, j < reads.length → listed.getD j false = true
    · exact fin (fuel + 1) listed a w hf hi hall
    refine ⟨fun h => absurd (fun j hj => all_of_ready rfl hA hi.lsize h j (by omega)) hall, fun i hir => ?_⟩
    have him : i < reads.length := by
      rcases Nat.lt_or_ge i reads.length with h | h
      · exact h
      · exact absurd (low listed hi.lsize hi.closed i hir h) hall
    obtain ⟨hun, o, ho, hdeps⟩ := mem_ready.1 hir
    have hisz : i < ops.size := (Array.getElem?_eq_some_iff.1 ho).1
    have hun' : listed.getD i false = false := by rw [getD_irrel (by rw [hi.lsize]; exact hisz) false true]; exact hun
    simp only [readsOk, List.all_eq_true] at hR
    have hRi := hR i (List.mem_range.2 him)
    have hri : reads[i]? = some (reads[i]'(by omega)) := List.getElem?_eq_getElem (by omega)
    generalize hrg : reads[i]'(by omega) = rg at hri
    obtain ⟨r, g⟩ := rg
    rw [ho, hri] at hRi
    simp only [Bool.and_eq_true, List.all_eq_true] at hRi
    obtain ⟨⟨hr, hdst⟩, hg⟩ := hRi
    -- ancestors of i are listed; descendants are not
    have hanc : ∀ k, (A.getD i 0).testBit k = true → listed.getD k false = true := closed_anc hA hi.closed i o ho hdeps
    have hdesc : ∀ j oj, ops[j]? = some oj → (A.getD j 0).testBit i = true → listed.getD j false = false := by
      intro j oj hoj hb
      cases hl : listed.getD j false with
      | false => rfl
      | true =>
        have := closed_anc hA hi.closed j oj hoj (hi.closed j oj hoj hl) i hb
        rw [this] at hun'; cases hun'
    have pair : ∀ i' j' oi' oj', i' < j' → ops[i']? = some oi' → ops[j']? = some oj' → (A.getD j' 0).testBit i' = true ∨ ((∀ t, oi'.dst = some t → t ∉ names ops oj') ∧ ∀ t, oj'.dst = some t → t ∉ oi'.looksAt ops) := by
      intro i' j' oi' oj' hlt hoi hoj
      have h1 := List.all_eq_true.1 hP j' (List.mem_range.2 (Array.getElem?_eq_some_iff.1 hoj).1)
      simp only [hoj, List.all_eq_true, List.mem_range] at h1
      have h2 := h1 i' hlt
      simp only [hoi, Bool.or_eq_true, Bool.and_eq_true] at h2
      rcases h2 with h2 | ⟨h2, h3⟩
      · exact .inl h2
      · refine .inr ⟨fun t ht => ?_, fun t ht => ?_⟩
        · simp [ht] at h2; exact h2
        · simp [ht] at h3; exact h3
    -- the writers that are listed of what i looks at are those ahead of it
    have hlook : ∀ t ∈ o.looksAt ops, lastW ops (fun j => listed.getD j false) t = lastW ops (fun j => decide (j < i)) t := by
      intro t ht
      refine lastW_congr fun j oj hoj hd => ?_
      rcases Nat.lt_trichotomy j i with hlt | rfl | hgt
      · have := (pair j i oj o hlt hoj ho).resolve_right (fun h => h.1 t hd (List.mem_append_right _ ht))
        simp [hlt, hanc j this]
      · simp [hun']
      · have := (pair i j o oj hgt ho hoj).resolve_right (fun h => h.2 t hd ht)
        rw [hdesc j oj hoj this]
        symm; simp; omega
    have hD : Deps V a0 a w r := by
      refine deps_of a w r fun ⟨t, j⟩ hx => ?_
      have h1 := hr (t, j) hx
      simp only [beq_iff_eq, List.contains_iff_mem] at h1
      have h2 := hi.tmps t
      rw [hlook t h1.1, h1.2] at h2
      cases j <;> exact h2
    simp only [phaseOk, Bool.and_eq_true, beq_iff_eq, List.all_eq_true, List.mem_range] at hK
    have hki : ks[i]? = some (ks[i]'(by omega)) := List.getElem?_eq_getElem (by omega)
    generalize hkk : ks[i]'(by omega) = kd at hki
    have hgoal := phHold_atF ops.toList reads ks 0 i o r g kd hops (by simpa using ho) hri hki
    rw [Nat.zero_add] at hgoal
    have big_all : ∀ p, ks[p]? = some .big → ∀ j, j < reads.length → j ≠ p → ks[j]? = some .float ∨ (A.getD p 0).testBit j = true := by
      intro p hp j hj hne
      have hpl : p < reads.length := by
        have := (List.getElem?_eq_some_iff.1 hp).1
        omega
      have := hK.2 p hpl
      rw [hp] at this
      simp only [List.all_eq_true, List.mem_range, Bool.or_eq_true, beq_iff_eq] at this
      rcases this j hj with (h | h) | h
      · exact absurd h hne
      · exact .inl h
      · exact .inr h
    have noBig : kd ≠ .float → ¬ BigIn ks listed := by
      rintro hne ⟨p, hp, hl⟩
      by_cases hip : i = p
      · subst hip; rw [hun'] at hl; cases hl
      · rcases big_all p hp i him hip with h | h
        · rw [hki] at h; exact hne (Option.some.inj h)
        · have hpo : p < ops.size := by
            rcases Nat.lt_or_ge p ops.size with h' | h'
            · exact h'
            · rw [show listed.getD p false = false from by simp [Array.getElem?_eq_none (show listed.size ≤ p by rw [hi.lsize]; exact h')]] at hl; cases hl
          have := closed_anc hA hi.closed p _ (Array.getElem?_eq_getElem hpo) (hi.closed p _ (Array.getElem?_eq_getElem hpo) hl) i h
          rw [this] at hun'; cases hun'
    have bigSet : ∀ {k : Phase}, kd = k → k ≠ .big → (BigIn ks (listed.setIfInBounds i true) ↔ BigIn ks listed) := by
      intro k hk hne
      constructor
      · rintro ⟨p, hp, hl⟩
        by_cases hip : i = p
        · subst hip; rw [hki] at hp; exact absurd (hk.symm.trans (Option.some.inj hp)) hne
        · rw [getD_set_other _ hip] at hl; exact ⟨p, hp, hl⟩
      · rintro ⟨p, hp, hl⟩
        by_cases hip : i = p
        · subst hip; rw [hun'] at hl; cases hl
        · exact ⟨p, hp, by rw [getD_set_other _ hip]; exact hl⟩
    have notBig : ∀ j, listed.getD j false = true → ¬ BigIn ks listed → ks[j]? ≠ some .big := fun j hl hb h => hb ⟨j, h, hl⟩
    -- behind operation i
    have next : ∀ v w', (∀ j, j ≠ i → listed.getD j false = true → ∀ u, V j w u → V j w' u) → (¬ BigIn ks (listed.setIfInBounds i true) → R w0 w') → (BigIn ks (listed.setIfInBounds i true) → ∃ w1, R w0 w1 ∧ Rp w1 w') → V i w' v → wpAny P .any ops Q fuel (listed.setIfInBounds i true) (a.put o.dst v) w' := by
      intro v w' hww he hl hv
      refine ih _ _ _ (unlisted_set hun fuel hf) ⟨he, hl, ?_, ?_, by simp [hi.lsize], ?_, fun j hj => ?_, ?_⟩
      · cases hd : o.dst <;> simp [Act.put, hi.size]
      · cases hd : o.dst <;> simp [Act.put, hi.defers]
      · intro j oj hoj hl e he hb
        by_cases hji : i = j
        · subst hji
          rw [ho] at hoj
          obtain rfl := Option.some.inj hoj
          by_cases hei : i = e.on
          · rw [← hei]; exact getD_set_self (by rw [hi.lsize]; exact hisz) _
          · rw [getD_set_other _ hei]; exact hdeps e he hb
        · rw [getD_set_other _ hji] at hl
          by_cases hei : i = e.on
          · rw [← hei]; exact getD_set_self (by rw [hi.lsize]; exact hisz) _
          · rw [getD_set_other _ hei]; exact hi.closed j oj hoj hl e he hb
      · rw [getD_set_other _ (by omega)]; exact hi.tail j hj
      · intro t
        by_cases hd : o.dst = some t
        · rw [lastW_set ho hd (p := fun j => (listed.setIfInBounds i true).getD j false) (getD_set_self (by rw [hi.lsize]; exact hisz) _) (fun j oj hoj hdj hlt => by
            have := (pair i j o oj hlt ho hoj).resolve_right (fun h => h.1 t hd (by simp [names, hdj]))
            rw [getD_set_other _ (by omega)]
            exact hdesc j oj hoj this)]
          have htn : t < a.tmps.size := by rw [hi.size]; simpa [hd] using hdst
          simp only [hd, Act.put]
          simpa [htn] using hv
        · rw [lastW_congr (q := fun j => listed.getD j false) (fun j oj hoj hdj => by
            by_cases hji : i = j
            · subst hji; rw [ho] at hoj; obtain rfl := Option.some.inj hoj; exact absurd hdj hd
            · exact getD_set_other _ hji)]
          have h2 := hi.tmps t
          have same : (a.put o.dst v).tmps[t]?.getD undef = a.tmps[t]?.getD undef := by
            cases hdd : o.dst with
            | none => rfl
            | some d =>
              have hne : d ≠ t := fun e => hd (by rw [hdd, e])
              simp [Act.put, Array.getElem?_setIfInBounds_ne hne]
          rw [same]
          revert h2
          cases hlw : lastW ops (fun j => listed.getD j false) t with
          | none => exact id
          | some j =>
            have hlj := lastW_listed hlw
            refine hww j ?_ hlj _
            intro e
            subst e
            rw [hun'] at hlj
            cases hlj
    unfold wpOp
    simp only [ho]
    cases kd with
    | big =>
      obtain ⟨hgn, hgoal⟩ := hgoal
      have hnb := noBig (by simp)
      rw [if_pos (by simp [Region.wanted, hgn])]
      refine .inl (hgoal a w (hi.early hnb) hD _ fun v w' hrp hv => ?_)
      have hbig : BigIn ks (listed.setIfInBounds i true) := ⟨i, hki, getD_set_self (by rw [hi.lsize]; exact hisz) _⟩
      exact next v w' (fun j _ hl u hu => hst j (notBig j hl hnb) w w' u (.inr hrp) hu) (fun h => absurd hbig h) (fun _ => ⟨w, hi.early hnb, hrp⟩) hv
    | plain =>
      have hnb := noBig (by simp)
      have hgoal := hgoal a w (hi.early hnb) hD
      have hs := bigSet rfl (by simp)
      have nx : ∀ v w', R w w' → V i w' v → wpAny P .any ops Q fuel (listed.setIfInBounds i true) (a.put o.dst v) w' := fun v w' hr hv =>
        next v w' (fun j _ hl u hu => hst j (notBig j hl hnb) w w' u (.inl hr) hu) (fun _ => htr _ _ _ (hi.early hnb) hr) (fun h => absurd (hs.1 h) hnb) hv
      cases hgg : o.guard with
      | none =>
        rw [hgg] at hg
        cases g with
        | some _ => simp at hg
        | none =>
          rw [if_pos (by simp [Region.wanted, hgg])]
          exact .inl (hgoal _ nx)
      | some kw =>
        obtain ⟨k, want⟩ := kw
        rw [hgg] at hg
        cases g with
        | none => simp at hg
        | some tw =>
          obtain ⟨t, want'⟩ := tw
          simp only [Bool.and_eq_true, beq_iff_eq] at hg
          obtain ⟨rfl, hk⟩ := hg
          have hw := wanted_iff (a := a) hgg hk
          by_cases hv : a.tmps[t]?.getD undef = .bool want
          · rw [if_pos (hw.2 hv)]
            exact .inl (hgoal.1 hv _ nx)
          · rw [if_neg (fun h => hv (hw.1 h))]
            exact nx undef w (hrf w) (hgoal.2 hv)
    | float =>
      have hgoal := hgoal a w (by
        by_cases hbi : BigIn ks listed
        · exact .inr (hi.late hbi)
        · exact .inl (hi.early hbi)) hD
      have hs := bigSet rfl (by simp)
      have nx : ∀ v w', w' = w → V i w' v → wpAny P .any ops Q fuel (listed.setIfInBounds i true) (a.put o.dst v) w' := fun v w' hr hv => by
        subst hr
        exact next v w' (fun j _ _ u hu => hu) (fun h => hi.early (fun hb => h (hs.2 hb))) (fun h => hi.late (hs.1 h)) hv
      cases hgg : o.guard with
      | none =>
        rw [hgg] at hg
        cases g with
        | some _ => simp at hg
        | none =>
          rw [if_pos (by simp [Region.wanted, hgg])]
          exact .inl (hgoal _ nx)
      | some kw =>
        obtain ⟨k, want⟩ := kw
        rw [hgg] at hg
        cases g with
        | none => simp at hg
        | some tw =>
          obtain ⟨t, want'⟩ := tw
          simp only [Bool.and_eq_true, beq_iff_eq] at hg
          obtain ⟨rfl, hk⟩ := hg
          have hw := wanted_iff (a := a) hgg hk
          by_cases hv : a.tmps[t]?.getD undef = .bool want
          · rw [if_pos (hw.2 hv)]
            exact .inl (hgoal.1 hv _ nx)
          · rw [if_neg (fun h => hv (hw.1 h))]
            exact nx undef w rfl (hgoal.2 hv)
end

section
variable {P : Program} {Q : Exit → Act → World → Prop} {V : Nat → World → Value → Prop} {a0 : Act} {w0 : World} {E : Act → World → Prop}
theorem wp_region_bigF {id : Nat} {n : Nat} (ks : List Phase) (V : Nat → World → Value → Prop) (R Rp : World → World → Prop) (reads : List (Reads × GuardT)) (fin : List (Tmp × Nat)) {l : List Oper} (tail : List Oper) (hn : a0.tmps.size = n) (hk : regionOk l.toArray reads fin n = true) (hd : l.drop reads.length = tail) (hm : P.follows .mixedOrders = true)
    (hrf : ∀ w, R w w) (htr : ∀ a b c, R a b → R b c → R a c) (hK : phaseOk (mkAnc l) ks reads.length = true) (hb : ks.contains .big = true)
    (hst : ∀ i, ks[i]? ≠ some .big → ∀ w w' v, R w w' ∨ Rp w w' → V i w v → V i w' v)
    (hops : PhHoldF P Q R Rp V a0 w0.drew 0 l reads ks)
    (hend : EndHold (fun w w' => ∃ w1, R w w1 ∧ Rp w1 w') V w0.drew (wpList P l.toArray Q tail) (fun _ => True) fin a0) :
    (Code.region id l.toArray true).wp P Q a0 w0 := by
  subst hn
  subst hd
  simp only [regionOk, Bool.and_eq_true] at hk
  obtain ⟨⟨⟨⟨hA, hP⟩, hR⟩, hF⟩, hT⟩ := hk
  refine wp_region_any hm ?_
  refine wpAny_invF (Rp := Rp) (ks := ks) (w0 := w0.drew) hA hP hR hT hrf htr hK hst hops ?_ _ _ _ _ (Nat.le_trans List.count_le_length (by simp)) ⟨fun _ => hrf _, ?_, rfl, rfl, by simp, ?_, ?_, ?_⟩
  · intro listed a w hl hi
    simp only [finalOk, Bool.and_eq_true, List.all_eq_true, beq_iff_eq] at hF
    have hF2 : ∀ (j : Nat) (o : Oper) (t : Tmp), l.toArray[j]? = some o → j < reads.length → o.dst = some t → t ∈ fin.map (·.1) := by
      intro j o t ho hj hd
      have := hF.2 o (by
        have h1 : (l.take reads.length)[j]? = some o := by rw [List.getElem?_take_of_lt hj]; simpa using ho
        exact List.mem_of_getElem? h1)
      rw [hd] at this
      simpa using this
    have hlast : ∀ t, lastW l.toArray (fun j => listed.getD j false) t = lastW l.toArray (fun j => decide (j < reads.length)) t := fun t =>
      lastW_congr fun j o ho _ => hl j
    have e : fin.foldl (fun a' x => a'.put (some x.1) ((fun t => a.tmps[t]?.getD undef) x.1)) a0 = a := by
      have h := foldl_put (fun t => a.tmps[t]?.getD undef) fin a0
      have hd : (fin.foldl (fun a' x => a'.put (some x.1) ((fun t => a.tmps[t]?.getD undef) x.1)) a0).defers = a.defers := h.2.1.trans hi.defers.symm
      have ht : (fin.foldl (fun a' x => a'.put (some x.1) ((fun t => a.tmps[t]?.getD undef) x.1)) a0).tmps = a.tmps := by
        refine Array.ext_getElem? fun t => ?_
        rcases Nat.lt_or_ge t a0.tmps.size with hlt | hge
        · rw [h.2.2 t hlt]
          have hat : a.tmps[t]? = some (a.tmps[t]?.getD undef) := by
            have : t < a.tmps.size := by rw [hi.size]; exact hlt
            simp [this]
          by_cases hm : t ∈ fin.map (·.1)
          · rw [if_pos hm]; exact hat.symm
          · rw [if_neg hm]
            have h2 := hi.tmps t
            have hnone : lastW l.toArray (fun j => listed.getD j false) t = none := by
              unfold lastW
              rw [List.find?_eq_none]
              intro j _
              cases ho : l.toArray[j]? with
              | none => simp
              | some o =>
                by_cases hdo : o.dst = some t
                · rcases Nat.lt_or_ge j reads.length with hj | hj
                  · exact absurd (hF2 j o t ho hj hdo) hm
                  · simp only [hi.tail j hj]; simp
                · simp [hdo]
            rw [hnone] at h2
            rw [hat, h2]
            simp [hlt]
        · rw [Array.getElem?_eq_none (by rw [h.1]; exact hge), Array.getElem?_eq_none (by rw [hi.size]; exact hge)]
      generalize fin.foldl (fun a' x => a'.put (some x.1) ((fun t => a.tmps[t]?.getD undef) x.1)) a0 = z at hd ht
      cases z; cases a; simp_all
    have hbin : BigIn ks listed := by
      have hmem := List.contains_iff_mem.1 hb
      obtain ⟨p, hp⟩ := List.mem_iff_getElem?.1 hmem
      refine ⟨p, hp, ?_⟩
      rw [hl p]
      have h1 := (List.getElem?_eq_some_iff.1 hp).1
      have h2 := hK
      simp only [phaseOk, Bool.and_eq_true, beq_iff_eq] at h2
      simp; omega
    have := endHold_at (fun t => a.tmps[t]?.getD undef) w (hi.late hbin) fin _ a0 hend trivial (fun x hx => by
      have h1 := hF.1 x hx
      have h2 := hi.tmps x.1
      rw [hlast, h1] at h2
      exact h2)
    rw [e] at this
    exact this
  · rintro ⟨p, _, hp⟩
    exfalso
    rcases Nat.lt_or_ge p l.length with h | h
    · simp [h] at hp
    · simp [h] at hp
  · intro j o ho hl
    exfalso
    have hj : j < l.length := by simpa using (Array.getElem?_eq_some_iff.1 ho).1
    simp [hj] at hl
  · intro j _
    rcases Nat.lt_or_ge j l.length with h | h
    · simp [h]
    · simp [h]
  · intro t
    have : lastW l.toArray (fun j => (Array.replicate l.toArray.size false).getD j false) t = none := by
      unfold lastW
      rw [List.find?_eq_none]
      intro j hj
      have hj : j < l.length := by simpa using hj
      simp [hj]
    rw [this]


end

theorem region_bigF {P : Program} {Q : Exit → Act → World → Prop} {a0 : Act} {w0 : World} {id : Nat} {n : Nat} {l : List Oper} (Rp : World → World → Prop) (ks : List Phase) (Vs : List (World → Value → Prop)) (reads : List (Reads × GuardT)) (fin : List (Tmp × Nat))
    (hn : a0.tmps.size = n) (hk : regionOk l.toArray reads fin n = true) (hK : phaseOk (mkAnc l) ks reads.length = true) (hb : ks.contains .big = true) (hm : P.follows .mixedOrders = true) (hv : ks.length = Vs.length)
    (hst : StableB Grew Rp ks Vs)
    (hops : PhHoldF P Q Grew Rp (at_ Vs) a0 w0.drew 0 l reads ks)
    (hend : EndHold (fun w w' => ∃ w1, Grew w w1 ∧ Rp w1 w') (at_ Vs) w0.drew (Later (wpList P l.toArray Q (dropN reads l))) (fun _ => True) fin a0) :
    (Code.region id l.toArray true).wp P Q a0 w0 :=
  wp_region_bigF ks (at_ Vs) Grew Rp reads fin _ hn hk (dropN_eq reads l) hm Grew.refl (fun _ _ _ => Grew.trans) hK hb (stableB_at ks Vs hv hst) hops (endHold_later _ _ _ hend)
end Go.Proofs.YtehbebpemnanoaaR

-- LzA
namespace Go.Proofs.Ytehbebpemnanoaa.F
open Go Go.RowKit Go.Proofs.YtehbebpemnanoaaW.PrintWords Go.Proofs.YtehbebpemnanoaaW.PrintLast Go.Proofs.YtehbebpemnanoaaW.PrintMore Go.Proofs.YtehbebpemnanoaaM Go.Proofs.YtehbebpemnanoaaR
attribute [local go_sem] max2_int min2_int max_two min_two
set_option linter.unusedSimpArgs false
set_option linter.unusedVariables false
set_option maxRecDepth 100000
theorem mid_row {A : Option Addr} {c : Nat} {l s : List Int} {w : World} {m L : Nat} (hr : Kd.C (Kd.int .u8) w A l.length l) (hc : l.length ≤ c) (hle : m + L ≤ l.length) (hs : (l.take (m + L)).drop m = s) (hL : s.length = L) :
    Row s w (.slice (if c = m then A else Option.map (fun x => x.add m) A) L (c - m)) := by
  have h := Kd.C_mid (c := c) (lo := m) (hi := m + L) hr (by omega) hle hc
  rw [hs] at h
  refine ⟨_, _, by rw [hL], by omega, ?_⟩
  have e : m * (Kd.int IntKind.u8).sz = m := Nat.mul_one m
  rw [e] at h
  exact h
theorem infoTk : (Try.prog.info? 47).map (fun i => (i.zero, i.size, i.bytes)) = some (some (.agg #[.int .i64 0, .int .i64 0, .string ⟨#[]⟩]), 3, 32) := by kernel_rfl
def Own8 (base : Nat) (l : List Int) : World → Value → Prop := fun w v => w.ownsRow base 5 1 v l.length (nums .u8 l)
theorem Own8.stable (base : Nat) (l : List Int) : ∀ w w' v, Grew w w' → Own8 base l w v → Own8 base l w' v := fun _ _ _ hg h => pw_own_below h hg
theorem put_o (A : Option Addr) (c : Nat) (l : List Int) (n : Nat) (w : World) (hr : Kd.C (Kd.int .u8) w A l.length l) (hc : l.length ≤ c) (h : n < 18446744073709551616) (hl : l.length ≤ 140737488351232) :
    Calls Try.prog 27 #[.slice A l.length c, .int .u64 n] w (Tells w (Own8 w.heap.size (l ++ putL n))) := by
  refine (num_Put.calls 10 A c l n (l ++ putL n) w hr hc (put_f 10 n l (Nat.le_refl _) h hl)).mono fun e w' ⟨v, he, hR, hb⟩ => ⟨v, he, Kd.own_of_R hR, hb⟩
theorem putL_small {n : Nat} (h : n ≤ 65536) : (putL n).length ≤ 3 := putL_len 2 n (by omega)
/-- the cells of tokens as signatures' are read -/
theorem tk_reps (w : World) : ∀ l : List Tk, Reps (k47.K w) 3 (l.map tkL) (tks l) := by
  intro l
  refine ⟨by rw [List.length_map]; exact tks_length l, fun j p hj => ?_⟩
  rw [List.getElem?_map] at hj
  obtain ⟨t, ht, rfl⟩ := Option.map_eq_some_iff.1 hj
  have hg : List.take 3 (List.drop (j * 3) (tks l)) = tkV t := by
    clear hj
    induction l generalizing j with
    | nil => simp at ht
    | cons x l ih =>
      have e : tks (x :: l) = tkV x ++ tks l := rfl
      cases j with
      | zero =>
        simp at ht
        subst ht
        rw [e, Nat.zero_mul, List.drop_zero]
        exact List.take_left' rfl
      | succ j =>
        have : List.drop ((j + 1) * 3) (tkV x ++ tks l) = List.drop (j * 3) (tks l) := by
          rw [show (j + 1) * 3 = j * 3 + 1 + 1 + 1 from by omega]
          simp [tkV]
        rw [e, this]
        exact ih j (by simpa using ht)
  rw [hg]
  exact k47_mk w (tkL t)
theorem tk_C {w : World} {base n : Nat} {v : Value} {l : List Tk} (h : w.ownsRow base 47 3 v n (tks l)) (hn : l.length = n) : ∃ A c, v = .slice A n c ∧ n ≤ c ∧ Kd.C k47 w A n (l.map tkL) := by
  obtain ⟨A, c, rfl, hr⟩ := own_reads_row h (tk_reps w l) (by rw [List.length_map, hn])
  exact ⟨A, c, rfl, own_le h, hr⟩
theorem tk_at {w : World} {A : Option Addr} {n : Nat} {l : List Tk} (h : Kd.C k47 w A n (l.map tkL)) (pre suf : List Tk) (t : Tk) (hl : l = pre ++ t :: suf) (hn : pre.length < n) : ∃ ad, A = some ad ∧ w.cell? (ad.add (pre.length * 3)) = some (.int .i64 t.b) ∧ w.cell? ⟨(ad.add (pre.length * 3)).block, (ad.add (pre.length * 3)).off + 1, none⟩ = some (.int .i64 t.s) ∧ w.cell? ⟨(ad.add (pre.length * 3)).block, (ad.add (pre.length * 3)).off + 2, none⟩ = some (.string t.d) := by
  obtain ⟨ad, hA, k0, k1, k2⟩ := at_T47 h (pre.length : Int) (by omega) (by omega)
  have : rd_T47 (l.map tkL) (pre.length : Int) = tkL t := by
    unfold rd_T47; rw [Int.toNat_natCast, hl]; simp [List.getD]
  rw [this, Int.toNat_natCast] at k0 k1 k2
  exact ⟨ad, hA, k0, k1, k2⟩
set_option maxHeartbeats 4000000 in
theorem lay_c (w : World) (A : Option Addr) (n c m : Nat) (l : List Tk) (hC : Kd.C k47 w A n (l.map tkL)) (hn : l.length = n) (hc : n ≤ c) (hr : ∀ t ∈ l, rightT t = true) (hn2 : n ≤ 100000) (hm : m ≤ 65536) :
    Calls Try.prog 20 #[.int .i64 (m : Int), .slice A n c] w (Tells w (Own8 w.heap.size (layL m l))) := by
  have H1 := Lib.hid (fun w => put_o none 0 [] m w (Kd.C_of_reads (d := (0 : Int)) (h1 := fun _ => rfl) ⟨rfl, by decide, fun h => absurd h (by decide)⟩) (Nat.le_refl _) (by omega) (by decide))
  have HC := Lib.hid hC
  have HN := Lib.hid hn
  have HR := Lib.hid hr
  have hmw : IntKind.u64.wrap (m : Int) = (m : Int) := by rw [u64_wrap]; omega
  have HLB := Lib.hid (show ∀ pre suf : List Tk, l = pre ++ suf → (layL m pre).length ≤ 10 + 129 * pre.length from fun pre suf h => by
    unfold layL
    rw [List.length_append]
    have h1 := putL_small hm
    have h2 : (pre.flatMap tokB).length ≤ 129 * pre.length := by
      have : ∀ p : List Tk, (∀ t ∈ p, rightT t = true) → (p.flatMap tokB).length ≤ 129 * p.length := by
        intro p
        induction p with
        | nil => intro _; simp
        | cons t p ih =>
          intro hp
          have h1 := tokB_len t (hp t (by simp))
          have h2 := ih (fun t ht => hp t (by simp [ht]))
          simp only [List.flatMap_cons, List.length_append, List.length_cons]
          omega
      exact this pre (fun t ht => hr t (by rw [h]; simp [ht]))
    omega)
  clear hC hn hr
  go_enter Try.func20, Try.ntmps20
  go_wp2_with fail
  refine (H1.out _).mono ?_
  rintro e w1 ⟨v1, rfl, ho1, hg1⟩
  obtain ⟨A1, c1, rfl⟩ := own_slice ho1
  have HO1 := Lib.hid ho1
  clear ho1
  go_wp2_with fail
  go_loopw [5, 13] (fun ov iv wr => ∃ pre suf : List Tk, iv = .int .i64 (pre.length : Int) ∧ l = pre ++ suf ∧ wr.ownsRow w.heap.size 5 1 ov (layL m pre).length (nums .u8 (layL m pre)) ∧ Grew w wr) (fun _ iv _ => n - (intOf iv).toNat)
  case atStart => exact ⟨[], l, rfl, rfl, by simpa [layL, Own8] using HO1.out, hg1⟩
  case round =>
    obtain ⟨pre, suf, rfl, hp, hown, hgr⟩ := hrel
    have hnn := HN.out
    rw [hp, List.length_append] at hnn
    rcases suf with _ | ⟨t, suf⟩
    · have d1 : decide ((pre.length : Int) < (n : Int)) = false := decide_eq_false (by simp at hnn; omega)
      have d2 : decide (pre.length < n) = false := decide_eq_false (by simp at hnn; omega)
      rw [List.append_nil] at hp
      have HP := Lib.hid hp
      have HO := Lib.hid hown
      clear hp hnn hown
      go_wp2_with fail
      go_ret
      exact ⟨_, rfl, by rw [HP.out]; exact HO.out, hgr⟩
    · have hlt : pre.length < n := by simp at hnn; omega
      have d1 : decide ((pre.length : Int) < (n : Int)) = true := decide_eq_true (by omega)
      have d2 : decide (pre.length < n) = true := decide_eq_true hlt
      have i1 : (pre.length : Int) < (n : Int) := by omega
      obtain ⟨ad, hA, k0, k1, k2⟩ := tk_at HC.out pre suf t hp hlt
      subst hA
      have k0 := pw_cell_below hgr k0
      have k1 := pw_cell_below hgr k1
      have k2 := pw_cell_below hgr k2
      have hrt := HR.out t (by rw [hp]; simp)
      have hlb := HLB.out pre (t :: suf) hp
      have HP := Lib.hid (show l = (pre ++ [t]) ++ suf from by rw [hp]; simp)
      have hw : IntKind.i64.wrap ((pre.length : Int) + 1) = (pre.length : Int) + 1 := by rw [IntWalk.i64_in _ (by omega)]
      obtain ⟨ll, hll⟩ : ∃ ll, ll = layL m pre := ⟨_, rfl⟩
      have HLL := Lib.hid (show layL m (pre ++ [t]) = ll ++ tokB t from by rw [layL_snoc, hll])
      rw [← hll] at hown hlb
      obtain ⟨Ar, cr, rfl⟩ := own_slice hown
      obtain ⟨nl, hnl⟩ : ∃ nl, nl = ll.length := ⟨_, rfl⟩
      rw [← hnl] at hown hlb ⊢
      have HO := Lib.hid hown
      have HNL := Lib.hid hnl
      have hlr := own_lt hown
      clear hp hnn hll hnl hown
      unfold rightT at hrt
      by_cases hd : t.d.size = 0
      · rw [if_pos hd] at hrt
        simp only [Bool.and_eq_true, decide_eq_true_eq] at hrt
        obtain ⟨⟨⟨r1, r2⟩, r3⟩, r4⟩ := hrt
        have e1 : (t.d.toList.isEmpty) = true := by rw [(nil_iff _).2 hd]; rfl
        have e2 : t.d.toList = [] := (nil_iff _).2 hd
        have HTB := Lib.hid (show tokB t = [t.s + 125, (t.b - 1) / 256, (t.b - 1) % 256] from by unfold tokB; rw [if_pos hd])
        obtain ⟨N3, hN3⟩ : ∃ N3, N3 = [t.s + 128 - 3, (t.b - 1) / 256, (t.b - 1) % 256] := ⟨_, rfl⟩
        have HN3 := Lib.hid (show N3 = tokB t from by rw [HTB.out, hN3]; congr 1; omega)
        obtain ⟨v6, w6, hrun, hown6, hgr6, -⟩ := app_many (P := Try.prog) ((wr.alloc (.cells #[.int .i64 t.b, .int .i64 t.s, .string t.d] 47)).alloc (.cells #[.int .u8 (t.s + 128 - 3), .int .u8 ((t.b - 1) / 256), .int .u8 ((t.b - 1) % 256)] 5)) w.heap.size 25 5 25 (.int .u8 0) 1 1 Try.underlying25 info5 rfl (by decide) (by decide) (.slice Ar nl cr) nl (nums .u8 ll) (some ⟨wr.heap.size + 1, 0, none⟩) 3 3 (nums .u8 N3) (by rw [hN3]; rfl) (by intro u hu; unfold nums at hu; obtain ⟨q, _, rfl⟩ := List.mem_map.1 hu; rfl)
          (fun _ => ⟨_, rfl, fun j u hu => by
            have := Blk.new (wr.alloc (.cells #[.int .i64 t.b, .int .i64 t.s, .string t.d] 47)) 5 (nums .u8 N3)
            rw [show (wr.alloc (.cells #[.int .i64 t.b, .int .i64 t.s, .string t.d] 47)).heap.size = wr.heap.size + 1 from by simp] at this
            rw [add_plain]
            have h2 := this.at_ (0 + j)
            rw [Nat.zero_add] at h2
            rw [hN3] at h2 hu
            rw [← hu]
            exact h2⟩) (pw_own_below HO.out ((Grew.alloc _ _).trans (Grew.alloc _ _))) (Nat.le_trans hgr.size (by simp; omega)) (by omega)
        have hgw6 : Grew w w6 := by
          have h1 : Upd (fun k => (Value.slice Ar nl cr).ownBlock = some k) wr w6 := (Upd.of_grew ((Grew.alloc _ _).trans (Grew.alloc _ _))).then_ (Upd.of_grown hgr6) (fun _ _ h => h)
          exact ((Upd.of_grew (S := fun k => w.heap.size ≤ k) hgr).trans (h1.mono fun k _ hk => own_base HO.out k hk)).grew (fun i hi h => by omega)
        have HRUN := Lib.hid hrun
        have HO6 := Lib.hid (show w6.ownsRow w.heap.size 5 1 v6 (layL m (pre ++ [t])).length (nums .u8 (layL m (pre ++ [t]))) from by
          have e3 : (nums .u8 ll ++ nums .u8 N3) = nums .u8 (ll ++ N3) := by simp [nums]
          have e4 : nl + 3 = (ll ++ N3).length := by rw [List.length_append, ← HNL.out, hN3]; rfl
          rw [e3, e4, HN3.out, ← HLL.out] at hown6
          exact hown6)
        have HG6 := Lib.hid hgw6
        clear hd hrun hown6 hgr6 hgw6 hN3
        go_wp2_with (at_builtin; refine wpList_app rfl _ _ _ rfl rfl rfl HRUN.out ?_)
        go_roundw
        case rel => exact ⟨pre ++ [t], suf, by simp, HP.out, HO6.out, HG6.out⟩
        case measure => simp [intOf]; omega
      · rw [if_neg hd] at hrt
        simp only [Bool.and_eq_true, decide_eq_true_eq] at hrt
        have e1 : (t.d.toList.isEmpty) = false := by
          rw [List.isEmpty_eq_false_iff]; exact fun h => hd ((nil_iff _).1 h)
        have e2 : ¬ t.d.toList = [] := fun h => hd ((nil_iff _).1 h)
        obtain ⟨ds, hds⟩ : ∃ ds, ds = t.d.size := ⟨_, rfl⟩
        have hds' := hds.symm
        have HTB := Lib.hid (show tokB t = ((ds : Int) - 1) :: bytesOf t.d from by unfold tokB; rw [if_neg hd, hds])
        have h128 : ds ≤ 128 := by omega
        have h1 : 1 ≤ ds := by omega
        have a1 : IntKind.i64.wrap ((ds : Int) - 1) = (ds : Int) - 1 := by rw [IntWalk.i64_in _ (by omega)]
        have a2 : IntKind.u8.wrap ((ds : Int) - 1) = (ds : Int) - 1 := by simp [IntKind.wrap, IntKind.bits, IntKind.signed]; omega
        obtain ⟨W2, hW2⟩ : ∃ W2, W2 = wr.alloc (.cells #[.int .i64 t.b, .int .i64 t.s, .string t.d] 47) := ⟨_, rfl⟩
        obtain ⟨g, hg⟩ : ∃ g, g = wr.heap.size := ⟨_, rfl⟩
        have hbl : Blk W2 g 47 [.int .i64 t.b, .int .i64 t.s, .string t.d] := by rw [hW2, hg]; exact Blk.new wr _ _
        have hg2 : Grew wr W2 := by rw [hW2]; exact Grew.alloc _ _
        have ho2 := pw_own_below HO.out hg2
        have hgr2 := hgr.trans hg2
        have CT := Lib.hid (show ∀ wx, (Grew W2 wx ∨ ∃ w1, Grew W2 w1 ∧ w1.grownBy wx (Value.slice Ar nl cr).ownBlock) → wx.cell? ⟨g, 2, none⟩ = some (.string t.d) from fun wx h => by
          rw [(hbl.upd (late_upd h) (fun e => by have := hlr g e; omega)).at_]; rfl)
        have HO2 := Lib.hid ho2
        have HWE := Lib.hid hW2
        have HGE := Lib.hid hg
        have HG2 := Lib.hid hgr2
        have hlr2 := own_lt ho2
        have HHH := Lib.hid hrt
        obtain ⟨x, hx⟩ : ∃ x, x = (ds : Int) - 1 := ⟨_, rfl⟩
        clear hds hrt hd hlr hbl hg2 hW2 hg ho2 hgr hgr2
        go_wp2_with fail
        rw [← HWE.out, ← HGE.out]
        have hB2 : w.heap.size ≤ W2.heap.size := HG2.out.size
        clear k0 k1 k2
        apply region_bigF (fun w w' => w.grownBy w' (Value.slice Ar nl cr).ownBlock) [.plain, .plain, .plain, .plain, .plain, .plain, .plain, .big, .float, .float] [Is _, Is _, Is _, Is _, Is _, Is _, OneC 5 [.int .u8 ((ds : Int) - 1)] (.slice Ar nl cr), AppS w.heap.size 5 1 (nums .u8 ll ++ [.int .u8 ((ds : Int) - 1)]) (nl + 1) (.slice Ar nl cr) W2.heap.size, Is _, Is _] [([(5, none)], none), ([(7, none)], none), ([(21, some 1)], none), ([(22, some 2)], none), ([(23, some 3)], none), ([(24, some 4)], none), ([(25, some 5)], none), ([(20, some 0), (26, some 6)], none), ([(7, none)], none), ([(28, some 8)], none)] [(26, 6), (27, 7), (20, 0), (21, 1), (22, 2), (23, 3), (24, 4), (25, 5), (28, 8), (29, 9)] rfl (by kernel_rfl) (by kernel_rfl) (by kernel_rfl) (by kernel_rfl) rfl (show StableB Grew _ _ _ from ⟨(fun _ => Is.stableB _), (fun _ => Is.stableB _), (fun _ => Is.stableB _), (fun _ => Is.stableB _), (fun _ => Is.stableB _), (fun _ => Is.stableB _), (fun _ => OneC.stableB _ _ _), (fun h_ => absurd rfl h_), (fun _ => Is.stableB _), (fun _ => Is.stableB _), trivial⟩)
        · show PhHoldF _ _ _ _ _ _ _ _ _ _ _
          refine ⟨fun a_ wx hR hD K hK => ?_, ?_⟩
          · have hG : Grew W2 wx := (Grew.drew _).trans hR
            simp [Deps, Dep, at_, Is] at hD
            go_simp
            exact hK _ _ (Grew.refl _) rfl
          refine ⟨fun a_ wx hR hD K hK => ?_, ?_⟩
          · have hG : Grew W2 wx := (Grew.drew _).trans hR
            simp [Deps, Dep, at_, Is] at hD
            go_simp
            exact hK _ _ (Grew.refl _) rfl
          refine ⟨fun a_ wx hR hD K hK => ?_, ?_⟩
          · have hG : Grew W2 wx := (Grew.drew _).trans hR
            simp [Deps, Dep, at_, Is] at hD
            have e_ := CT.out wx (.inl hG)
            go_simp
            exact hK _ _ (Grew.refl _) rfl
          refine ⟨fun a_ wx hR hD K hK => ?_, ?_⟩
          · have hG : Grew W2 wx := (Grew.drew _).trans hR
            simp [Deps, Dep, at_, Is] at hD
            go_simp
            exact hK _ _ (Grew.refl _) rfl
          refine ⟨fun a_ wx hR hD K hK => ?_, ?_⟩
          · have hG : Grew W2 wx := (Grew.drew _).trans hR
            simp [Deps, Dep, at_, Is] at hD
            go_simp
            exact hK _ _ (Grew.refl _) rfl
          refine ⟨fun a_ wx hR hD K hK => ?_, ?_⟩
          · have hG : Grew W2 wx := (Grew.drew _).trans hR
            simp [Deps, Dep, at_, Is] at hD
            go_simp
            exact hK _ _ (Grew.refl _) rfl
          refine ⟨fun a_ wx hR hD K hK => ?_, ?_⟩
          · have hG : Grew W2 wx := (Grew.drew _).trans hR
            simp [Deps, Dep, at_, Is] at hD
            go_simp
            exact hK _ _ (Grew.alloc _ _) (OneC.new (fun k hk => Nat.lt_of_lt_of_le (hlr2 k hk) hG.size))
          refine ⟨⟨rfl, fun a_ wx hR hD K hK => ?_⟩, ?_⟩
          · have hG : Grew W2 wx := (Grew.drew _).trans hR
            simp [Deps, Dep, at_, Is] at hD
            obtain ⟨hd0, hd1⟩ := hD
            obtain ⟨g1, h1, h2, h3⟩ := hd1
            obtain ⟨v1, wy, hrun, hown1, hgr1, hat1⟩ := app_cells (P := Try.prog) wx w.heap.size 25 5 25 (.int .u8 0) 1 1 Try.underlying25 info5 rfl (by decide) (by decide) _ nl (nums .u8 ll) g1 [.int .u8 ((ds : Int) - 1)] rfl (by intro v hv; simp at hv; rcases hv with rfl; rfl) (pw_own_below HO2.out hG) h2 (Nat.le_trans hB2 hG.size) (by omega)
            exact wp_app (.tmp 20) (.tmp 26) 25 rfl (eval_tmp hd0) (eval_tmp h1) hrun (hK _ _ hgr1 ⟨hown1, hat1.imp id (fun h => ⟨_, h.choose_spec.1, Nat.le_trans hG.size h.choose_spec.2⟩)⟩)
          refine ⟨fun a_ wx hRL hD K hK => ?_, ?_⟩
          · have hF_ := True.intro
            have hRL : Grew W2 wx ∨ ∃ w1_, Grew W2 w1_ ∧ (fun w w' => w.grownBy w' (Value.slice Ar nl cr).ownBlock) w1_ wx := hRL.elim (fun h_ => .inl ((Grew.drew _).trans h_)) (fun h_ => .inr ⟨h_.choose, (Grew.drew _).trans h_.choose_spec.1, h_.choose_spec.2⟩)
            simp [Deps, Dep, at_, Is] at hD
            go_simp
            exact hK _ _ rfl rfl
          refine ⟨fun a_ wx hRL hD K hK => ?_, ?_⟩
          · have hF_ := True.intro
            have hRL : Grew W2 wx ∨ ∃ w1_, Grew W2 w1_ ∧ (fun w w' => w.grownBy w' (Value.slice Ar nl cr).ownBlock) w1_ wx := hRL.elim (fun h_ => .inl ((Grew.drew _).trans h_)) (fun h_ => .inr ⟨h_.choose, (Grew.drew _).trans h_.choose_spec.1, h_.choose_spec.2⟩)
            simp [Deps, Dep, at_, Is] at hD
            have e_ := CT.out wx hRL
            go_simp
            exact hK _ _ rfl rfl
          trivial
        · show EndHold _ _ _ _ _ _ _
          intro v26
          intro v27
          refine end_all (xs := [_, _, _, _, _, _, _, _]) ⟨rfl, rfl, rfl, rfl, rfl, rfl, rfl, rfl, trivial⟩ ?_
          rintro w3 hR1 ⟨⟨-, hOne⟩, hApp⟩
          refine ⟨?_⟩
          obtain ⟨wm_w3, hRm, hP_w3⟩ := hR1
          have hG_w3 : Grew W2 wm_w3 := (Grew.drew _).trans hRm
          clear hRm
          simp only [Act.put, List.setIfInBounds_toArray, List.set_cons_succ, List.set_cons_zero, dropN, putEach]
          obtain ⟨hro, hat⟩ := hApp
          obtain ⟨A4, c4, rfl⟩ := own_slice hro
          have hx1 : (ll ++ [x]).length = nl + 1 := by rw [List.length_append, ← HNL.out]; rfl
          have hro1 : w3.ownsRow w.heap.size 5 1 (.slice A4 (nl + 1) c4) (ll ++ [x]).length (nums .u8 (ll ++ [x])) := by
            rw [hx1, hx, show nums .u8 (ll ++ [(ds : Int) - 1]) = nums .u8 ll ++ [.int .u8 ((ds : Int) - 1)] from by simp [nums]]
            exact hro
          have hu3 : Upd (fun k => (Value.slice Ar nl cr).ownBlock = some k) W2 w3 := (Upd.of_grew hG_w3).grown hP_w3 fun k hk => .inl hk
          have hg3 : Grew w w3 := (((Upd.of_grew (S := fun k => w.heap.size ≤ k) HG2.out).trans (hu3.mono fun k _ hk => own_base HO2.out k hk))).grew (fun i hi h => by omega)
          have HO3 := Lib.hid hro1
          have HX1 := Lib.hid hx1
          have HL2 := Lib.hid (show (ll ++ [x]) ++ bytesOf t.d = ll ++ tokB t from by rw [HTB.out, hx]; simp)
          have hy : (ll ++ [x]).length + t.d.size ≤ 140737488355328 := by rw [hx1, hds']; omega
          have HY := Lib.hid hy
          have HG3 := Lib.hid hg3
          clear hro hro1 hat hx1 hx hu3 hg3 hOne hP_w3 hG_w3 hlr2 hy hB2
          refine print_append_str (w0 := w) w.heap.size rfl (.tmp 27) (.tmp 29) 25 9 5 rfl Try.underlying25 Try.underlying9 info5 _ (ll ++ [x]) t.d rfl rfl HO3.out HG3.out HG3.out.size HY.out ?_
          intro v1 w6 hown6 hbel6 hgr6
          go_wp2_with fail
          go_roundw
          case rel => exact ⟨pre ++ [t], suf, by simp, HP.out, by rw [HLL.out, ← HL2.out]; exact hown6, hbel6⟩
          case measure => simp [intOf]; omega
end Go.Proofs.Ytehbebpemnanoaa.F

-- LzN
namespace Go.Proofs.Ytehbebpemnanoaa.F
open Go Go.RowKit Go.Proofs.YtehbebpemnanoaaW.PrintWords Go.Proofs.YtehbebpemnanoaaW.PrintLast Go.Proofs.YtehbebpemnanoaaW.PrintMore Go.Proofs.YtehbebpemnanoaaM Go.Proofs.YtehbebpemnanoaaR
open Go.Maps (Keyed)
attribute [local go_sem] max2_int min2_int max_two min_two
set_option linter.unusedSimpArgs false
set_option linter.unusedVariables false
set_option maxRecDepth 100000
/-- the key of three bytes -/
def key3 (a b c : Int) : Lit := .string (keyBytes [.int .u8 a, .int .u8 b, .int .u8 c])
theorem arr3K : WideMaps.ArrKey Try.prog 62 5 3 := ⟨Try.underlying62, by kernel_rfl, by kernel_rfl, by kernel_rfl⟩
theorem keyed3 : Keyed Try.prog 62 := Maps.Keyed.of_law arr3K.law
theorem keyOf3 (a b c : Int) (ha : 0 ≤ a ∧ a < 256) (hb : 0 ≤ b ∧ b < 256) (hc : 0 ≤ c ∧ c < 256) : keyOf Try.prog 62 (.agg #[.int .u8 a, .int .u8 b, .int .u8 c]) = some (key3 a b c) := by
  have hkt : Try.prog.keyType 62 = true := by kernel_rfl
  have hu := Try.underlying62
  have hu5 := Try.underlying5
  have h1 : (Lit.int .u8 a).wf = true := WalkArith.wf_u8 (by omega)
  have h2 : (Lit.int .u8 b).wf = true := WalkArith.wf_u8 (by omega)
  have h3 : (Lit.int .u8 c).wf = true := WalkArith.wf_u8 (by omega)
  have hc1 := arr3K.one
  have hc3 := arr3K.size
  obtain ⟨m, hm⟩ : ∃ m, Try.prog.types.size = m + 1 := ⟨Try.prog.types.size - 1, by have : 0 < Try.prog.types.size := by decide +kernel
                                                                                    omega⟩
  unfold keyOf
  rw [hu]
  simp only
  rw [if_pos (by simp [hkt, Value.formed, hu, hc3]), hm]
  unfold Program.keyLits
  simp only [hu, Value.cells]
  rw [if_pos (by rw [hc3]; rfl), hc1]
  simp [List.range_succ, Program.keyLits, hu5, h1, h2, h3, key3]
/-- the key of the three bytes at a place -/
def keyAt (l : List Int) (i : Nat) : Lit := key3 (l.getD i 0) (l.getD (i + 1) 0) (l.getD (i + 2) 0)
noncomputable def noteM (l : List Int) (M : Lit → Option Int) (i : Nat) : Lit → Option Int := if i + 3 ≤ l.length then setM M (keyAt l i) i else M
theorem zeroI (w : World) : (zeroValue 3).run Try.prog w = .ok (.int .i64 0) w := by kernel_rfl
theorem run_arrayAt (w : World) (a : Option Addr) (c : Nat) : (Instr.arrayAt 62 (.slice a 3 c)).run Try.prog w = .ok (.pointer a) w := by
  simp [Instr.arrayAt, run_underlying Try.underlying62, Result.andThen]
set_option maxHeartbeats 2000000 in
theorem note_c (w : World) (tb tm mb N : Nat) (A : Option Addr) (n c : Nat) (l : List Int) (M : Lit → Option Int) (i : Nat) (hr : Kd.C (Kd.int .u8) w A n l) (hn : l.length = n) (hc : n ≤ c) (hb : ∀ x ∈ l, 0 ≤ x ∧ x < 256) (hn2 : n ≤ 1000000) (hi : i ≤ n)
    (hbl : Blk w tb 25 [.slice A n c]) (hmb : Blk w tm 60 [.map (some mb)]) (hM : MapI w Try.prog 62 3 mb N M) (hN : N ≤ 10000000) :
    Calls Try.prog 29 #[.int .i64 (i : Int), .pointer (some ⟨tb, 0, none⟩), .pointer (some ⟨tm, 0, none⟩)] w (Does (fun g => g = mb) w (fun w' v => v = .tuple #[] ∧ MapI w' Try.prog 62 3 mb (N + 1) (noteM l M i))) := by
  have CB := Lib.hid (show ∀ wx, Grew w wx → wx.cell? ⟨tb, 0, none⟩ = some (.slice A n c) from fun wx h => by rw [(hbl.grew h).at_]; rfl)
  have CM := Lib.hid (show ∀ wx, Grew w wx → wx.cell? ⟨tm, 0, none⟩ = some (.map (some mb)) from fun wx h => by rw [(hmb.grew h).at_]; rfl)
  have cb := CB.out w (Grew.refl _)
  by_cases h3 : i + 3 ≤ n
  · have hnM : noteM l M i = setM M (keyAt l i) i := by unfold noteM; rw [if_pos (by omega)]
    have y1 : decide ((i : Int) + 3 ≤ (n : Int)) = true := decide_eq_true (by omega)
    have hrow := fun j (hj : j < l.length) => row_cell (hn ▸ hr) j hj
    obtain ⟨ad, hA, k0⟩ := hrow i (by omega)
    obtain ⟨ad1, hA1, k1⟩ := hrow (i + 1) (by omega)
    obtain ⟨ad2, hA2, k2⟩ := hrow (i + 2) (by omega)
    subst hA
    obtain rfl := Option.some.inj hA1
    obtain rfl := Option.some.inj hA2
    have hby := fun j (hj : j < l.length) => hb l[j] (List.getElem_mem hj)
    have hg := fun j (hj : j < l.length) => show l.getD j 0 = l[j] from by simp [List.getD, hj]
    have hkey : keyOf Try.prog 62 (.agg #[.int .u8 (l.getD i 0), .int .u8 (l.getD (i + 1) 0), .int .u8 (l.getD (i + 2) 0)]) = some (keyAt l i) := by
      refine keyOf3 _ _ _ ?_ ?_ ?_
      · rw [hg i (by omega)]; exact hby i (by omega)
      · rw [hg (i + 1) (by omega)]; exact hby (i + 1) (by omega)
      · rw [hg (i + 2) (by omega)]; exact hby (i + 2) (by omega)
    have HST := Lib.hid (fun w' (h : Grew w w') => (hM.move (h.block _ hM.lt)).store keyed3 Try.underlying60 Try.underlying3 (by unfold maxLen; omega) hkey (i : Int) (WalkArith.wf_i64 (by omega)))
    rw [← hnM] at HST
    obtain ⟨x0, hx0⟩ : ∃ x0, x0 = l.getD i 0 := ⟨_, rfl⟩
    obtain ⟨x1, hx1⟩ : ∃ x1, x1 = l.getD (i + 1) 0 := ⟨_, rfl⟩
    obtain ⟨x2, hx2⟩ : ∃ x2, x2 = l.getD (i + 2) 0 := ⟨_, rfl⟩
    rw [← hx0, ← hx1, ← hx2] at HST
    rw [← hx0] at k0
    rw [← hx1, add_field _ _ 1 (by omega)] at k1
    rw [← hx2, add_field _ _ 2 (by omega)] at k2
    have KK := Lib.hid (fun wx (h : Grew w wx) => And.intro (pw_cell_below h k0) (And.intro (pw_cell_below h k1) (pw_cell_below h k2)))
    have z1 : (i : Int) ≤ (i : Int) + 3 := by omega
    have z2 : (i : Int) + 3 ≤ (c : Int) := by omega
    have z3 : ((i : Int) + 3).toNat = i + 3 := by omega
    have z4 : ¬ c = i := by omega
    have z5 : (0 : Int) ≤ (i : Int) + 3 := by omega
    have z7 : i + 3 - i = 3 := by omega
    have z6 : IntKind.i64.wrap ((i : Int) + 3) = (i : Int) + 3 := by rw [IntWalk.i64_in _ (by omega)]
    clear hr hn hb hbl hmb hM hnM hrow hby hg hkey hx0 hx1 hx2 k0 k1 k2
    go_enter Try.func29, Try.ntmps29
    go_wp2_with fail
    apply region_grew [Is _, Is _, Is _, Is _, Is _, Is _, Is _, Is _, Is _] [([(2, none)], none), ([(1, none)], none), ([(0, none)], none), ([(0, none)], none), ([(12, some 3)], none), ([(10, some 1), (11, some 2), (13, some 4)], none), ([(14, some 5)], none), ([(15, some 6)], none), ([(0, none)], none)] [(9, 0), (10, 1), (11, 2), (12, 3), (13, 4), (14, 5), (15, 6), (16, 7), (17, 8)] rfl (by kernel_rfl) (by kernel_rfl) (show Stable Grew _ from ⟨Is.stable _, Is.stable _, Is.stable _, Is.stable _, Is.stable _, Is.stable _, Is.stable _, Is.stable _, Is.stable _, trivial⟩)
    · show OpsHold _ _ _ _ _ _ _ _ _
      refine ⟨fun a_ wx hR hD K hK => ?_, ?_⟩
      · have hG : Grew w wx := (Grew.drew _).trans hR
        simp [Deps, Dep, at_, Is] at hD
        have e_ := CM.out wx hG
        go_simp
        exact hK _ _ (Grew.refl _) rfl
      refine ⟨fun a_ wx hR hD K hK => ?_, ?_⟩
      · have hG : Grew w wx := (Grew.drew _).trans hR
        simp [Deps, Dep, at_, Is] at hD
        have e_ := CB.out wx hG
        go_simp
        exact hK _ _ (Grew.refl _) rfl
      refine ⟨fun a_ wx hR hD K hK => ?_, ?_⟩
      · have hG : Grew w wx := (Grew.drew _).trans hR
        simp [Deps, Dep, at_, Is] at hD
        go_simp
        exact hK _ _ (Grew.refl _) rfl
      refine ⟨fun a_ wx hR hD K hK => ?_, ?_⟩
      · have hG : Grew w wx := (Grew.drew _).trans hR
        simp [Deps, Dep, at_, Is] at hD
        go_simp
        exact hK _ _ (Grew.refl _) rfl
      refine ⟨fun a_ wx hR hD K hK => ?_, ?_⟩
      · have hG : Grew w wx := (Grew.drew _).trans hR
        simp [Deps, Dep, at_, Is] at hD
        go_simp
        exact hK _ _ (Grew.refl _) rfl
      refine ⟨fun a_ wx hR hD K hK => ?_, ?_⟩
      · have hG : Grew w wx := (Grew.drew _).trans hR
        simp [Deps, Dep, at_, Is] at hD
        obtain ⟨hd0, hd1, hd2⟩ := hD
        go_simp
        exact hK _ _ (Grew.refl _) rfl
      refine ⟨fun a_ wx hR hD K hK => ?_, ?_⟩
      · have hG : Grew w wx := (Grew.drew _).trans hR
        simp [Deps, Dep, at_, Is] at hD
        have e_ := run_arrayAt wx
        go_simp
        exact hK _ _ (Grew.refl _) rfl
      refine ⟨fun a_ wx hR hD K hK => ?_, ?_⟩
      · have hG : Grew w wx := (Grew.drew _).trans hR
        simp [Deps, Dep, at_, Is] at hD
        have e0 := (KK.out wx hG).1
        have e1 := (KK.out wx hG).2.1
        have e2 := (KK.out wx hG).2.2
        go_simp
        exact hK _ _ (Grew.refl _) rfl
      refine ⟨fun a_ wx hR hD K hK => ?_, ?_⟩
      · have hG : Grew w wx := (Grew.drew _).trans hR
        simp [Deps, Dep, at_, Is] at hD
        go_simp
        exact hK _ _ (Grew.refl _) rfl
      trivial
    · show EndHold _ _ _ _ _ _ _
      refine end_all (xs := [_, _, _, _, _, _, _, _, _]) ⟨rfl, rfl, rfl, rfl, rfl, rfl, rfl, rfl, rfl, trivial⟩ ?_
      rintro w2 hR1 -
      refine ⟨?_⟩
      have hG_w2 : Grew w w2 := (Grew.drew _).trans hR1
      clear hR1
      simp only [Act.put, List.setIfInBounds_toArray, List.set_cons_succ, List.set_cons_zero, dropN, putEach]
      obtain ⟨w3, hrun3, hM3, hu3⟩ := HST.out w2 hG_w2
      have HR3 := Lib.hid hrun3
      have HM3 := Lib.hid hM3
      have HU3 := Lib.hid hu3
      clear hrun3 hM3 hu3
      refine wpList_mapUpdate_run rfl _ _ _ _ rfl rfl rfl rfl HR3.out ?_
      go_wp2_with fail
      refine bodyPost_ret (results_none rfl _ _ _) rfl ?_
      exact ⟨_, rfl, ⟨rfl, HM3.out⟩, (Upd.of_grew hG_w2).trans HU3.out⟩
  · have hnM : noteM l M i = M := by unfold noteM; rw [if_neg (by omega)]
    have y1 : decide ((i : Int) + 3 ≤ (n : Int)) = false := decide_eq_false (by omega)
    rw [hnM]
    have HM := Lib.hid (hM.mono (Nat.le_succ N))
    clear hr hn hb hbl hmb hM hnM
    go_enter Try.func29, Try.ntmps29
    go_wp2_with fail
    refine bodyPost_ret (results_none rfl _ _ _) rfl ?_
    exact ⟨_, rfl, ⟨rfl, HM.out⟩, Upd.refl _ _⟩
end Go.Proofs.Ytehbebpemnanoaa.F

-- LzI
namespace Go.Proofs.Ytehbebpemnanoaa.F
open Go Go.RowKit Go.Proofs.YtehbebpemnanoaaW.PrintWords Go.Proofs.YtehbebpemnanoaaW.PrintLast Go.Proofs.YtehbebpemnanoaaW.PrintMore Go.Proofs.YtehbebpemnanoaaM Go.Proofs.YtehbebpemnanoaaR
set_option linter.unusedSimpArgs false
set_option linter.unusedVariables false
theorem good_len : ∀ (L : List Tk) (k : Nat), goodL k L → L.length ≤ tellL L
  | [], _, _ => by simp
  | t :: L, k, h => by
    have h1 := tellT_pos t h.1
    have h2 := good_len L _ h.2.2
    rw [tellL_cons, List.length_cons]
    omega
/-- how many bytes tokens have -/
def costL (L : List Tk) : Nat := (L.flatMap tokB).length
theorem costL_app (a b : List Tk) : costL (a ++ b) = costL a + costL b := by simp [costL]
/-- notes of so many places from i on -/
noncomputable def notesM (l : List Int) (M : Lit → Option Int) (i : Nat) : Nat → Lit → Option Int
  | 0 => M
  | j + 1 => noteM l (notesM l M i j) (i + j)
/-- of bytes that are all the same -/
structure CstI (l : List Int) (c : Int) (acc : List Tk) (fr i : Nat) (M : Lit → Option Int) : Prop where
  j1 : i = 0 ∨ l.length < i + 2 ∨ M (key3 c c c) = some ((i : Int) - 1)
  j2 : (fr = 0 ∧ acc = [] ∧ (i ≤ 1 ∨ l.length ≤ 4)) ∨ (1 ≤ fr ∧ (i = fr ∨ l.length ≤ fr + 3) ∧ (130 * costL acc + 3 ≤ 260 + 3 * fr ∨ (fr = l.length ∧ 130 * costL acc + 3 ≤ 650 + 3 * fr)))
structure LoopI (l : List Int) (acc : List Tk) (fr i : Nat) (M : Lit → Option Int) : Prop where
  ci : CInv l acc fr
  fi : fr ≤ i
  il : i ≤ l.length
  mv : ∀ kl v, M kl = some v → 0 ≤ v ∧ v < i
  cst : ∀ c, (∀ x ∈ l, x = c) → CstI l c acc fr i M
theorem LoopI.zero (l : List Int) : LoopI l [] 0 0 (fun _ => none) :=
  ⟨CInv.zero l, Nat.le_refl _, Nat.zero_le _, fun _ _ h => (by cases h), fun c _ => ⟨.inl rfl, .inl ⟨rfl, rfl, .inl (by omega)⟩⟩⟩
theorem getD_cst {l : List Int} {c : Int} (h : ∀ x ∈ l, x = c) {i : Nat} (hi : i < l.length) : l.getD i 0 = c := by
  have : l.getD i 0 = l[i] := by simp [List.getD, hi]
  rw [this]
  exact h _ (List.getElem_mem hi)
theorem keyAt_cst {l : List Int} {c : Int} (h : ∀ x ∈ l, x = c) {i : Nat} (hi : i + 3 ≤ l.length) : keyAt l i = key3 c c c := by
  unfold keyAt
  rw [getD_cst h (by omega), getD_cst h (by omega), getD_cst h (by omega)]
theorem noteM_mv {l : List Int} {M : Lit → Option Int} {i : Nat} (h : ∀ kl v, M kl = some v → 0 ≤ v ∧ v < i) : ∀ kl v, noteM l M i kl = some v → 0 ≤ v ∧ v < ((i + 1 : Nat) : Int) := by
  intro kl v hv
  unfold noteM at hv
  split at hv
  · by_cases hk : kl = keyAt l i
    · subst hk
      rw [setM_same] at hv
      obtain rfl := Option.some.inj hv
      omega
    · rw [setM_other _ _ hk] at hv
      have := h kl v hv
      omega
  · have := h kl v hv
    omega
theorem noteM_cst {l : List Int} {c : Int} (h : ∀ x ∈ l, x = c) (M : Lit → Option Int) (i : Nat) : (i + 1 = 0 ∨ l.length < i + 1 + 2 ∨ noteM l M i (key3 c c c) = some (((i + 1 : Nat) : Int) - 1)) := by
  unfold noteM
  by_cases hi : i + 3 ≤ l.length
  · rw [if_pos hi, keyAt_cst h hi]
    right; right
    rw [setM_same]
    congr 1
    omega
  · right; left; omega
theorem LoopI.lit {l : List Int} {acc : List Tk} {fr i : Nat} {M : Lit → Option Int} (h : LoopI l acc fr i M) (hi : i < l.length)
    (hn : i + 3 ≤ l.length → ∀ k : Nat, M (keyAt l i) = some (k : Int) → i ≤ k + 65536 → ∃ n, Alike l k i n ∧ n ≤ 3) : LoopI l acc fr (i + 1) (noteM l M i) := by
  refine ⟨h.ci, by have := h.fi; omega, hi, noteM_mv h.mv, fun c hc => ⟨noteM_cst hc M i, ?_⟩⟩
  obtain ⟨h1, h2⟩ := h.cst c hc
  -- behind i there are at most three bytes, or it is the first place
  have hsmall : i = 0 ∨ l.length ≤ i + 3 := by
    by_cases hi0 : i = 0
    · exact .inl hi0
    · right
      by_cases hi3 : i + 3 ≤ l.length
      · rcases h1 with h1 | h1 | h1
        · exact absurd h1 hi0
        · omega
        · obtain ⟨n, ha, hn3⟩ := hn hi3 (i - 1) (by rw [keyAt_cst hc hi3, h1]; congr 1; omega) (by omega)
          rcases ha.stop with hs | hs | hs
          · omega
          · omega
          · have hlen := ha.len
            by_cases he : i + n < l.length
            · exact absurd (by rw [getD_cst hc (by omega), getD_cst hc he]) hs
            · omega
      · omega
  rcases h2 with ⟨a1, a2, a3⟩ | ⟨a1, a2, a3⟩
  · exact .inl ⟨a1, a2, by omega⟩
  · exact .inr ⟨a1, by omega, a3⟩
theorem notesM_mv {l : List Int} {M : Lit → Option Int} {i : Nat} (h : ∀ kl v, M kl = some v → 0 ≤ v ∧ v < i) : ∀ j, ∀ kl v, notesM l M i j kl = some v → 0 ≤ v ∧ v < ((i + j : Nat) : Int)
  | 0 => h
  | j + 1 => noteM_mv (notesM_mv h j)
theorem LoopI.back {l : List Int} {acc : List Tk} {fr i k n : Nat} {M : Lit → Option Int} (h : LoopI l acc fr i M) (hb : ∀ x ∈ l, 0 ≤ x ∧ x < 256) (hi : i + 3 ≤ l.length) (hk : k < i) (hf : i ≤ k + 65536) (ha : Alike l k i n) (hn : 3 < n) (hM : M (keyAt l i) = some (k : Int)) :
    LoopI l (acc ++ litsT l fr i (cntL fr i) ++ [⟨(i : Int) - (k : Int), (n : Int), ByteArray.empty⟩]) (i + n) (i + n) (notesM l M i n) := by
  have hfi := h.fi
  have hci := h.ci.back hb hfi hk (by omega) hn ha.le ha.len ha.same
  refine ⟨hci, Nat.le_refl _, ha.len, notesM_mv h.mv n, fun c hc => ⟨?_, ?_⟩⟩
  · obtain ⟨m, rfl⟩ : ∃ m, n = m + 1 := ⟨n - 1, by omega⟩
    exact noteM_cst hc _ (i + m)
  · obtain ⟨h1, h2⟩ := h.cst c hc
    right
    refine ⟨by omega, .inl rfl, ?_⟩
    have hstop : n = 130 ∨ i + n = l.length := by
      rcases ha.stop with hs | hs | hs
      · exact .inl hs
      · exact .inr hs
      · have hlen := ha.len
        by_cases he : i + n < l.length
        · exact absurd (by rw [getD_cst hc (by omega), getD_cst hc he]) hs
        · exact .inr (by omega)
    have e3 : costL ([⟨(i : Int) - (k : Int), (n : Int), ByteArray.empty⟩] : List Tk) = 3 := by
      simp only [costL, List.flatMap_cons, List.flatMap_nil, List.append_nil, tokB]
      rw [if_pos (by rfl)]
      rfl
    have hl := lits_cost l fr i (by omega) hfi hb (cntL fr i) (Nat.le_refl _)
    have hcm : min (fr + 128 * cntL fr i) i = i := by unfold cntL; omega
    rw [hcm] at hl
    rw [costL_app, costL_app, e3, show costL (litsT l fr i (cntL fr i)) = i - fr + cntL fr i from hl]
    have hlen := ha.len
    have hle := ha.le
    rcases h2 with ⟨a1, a2, a3⟩ | ⟨a1, a2, a3⟩
    · -- the first match: behind one byte
      subst a1 a2
      have hi1 : i = 1 := by omega
      subst hi1
      have : cntL 0 1 = 1 := rfl
      simp only [this, show costL ([] : List Tk) = 0 from rfl]
      rcases hstop with hs | hs
      · left; omega
      · right; exact ⟨hs, by omega⟩
    · have hif : i = fr := by omega
      subst hif
      have : cntL i i = 0 := by unfold cntL; omega
      rw [this]
      rcases a3 with a3 | ⟨a3, a4⟩
      · rcases hstop with hs | hs
        · left; omega
        · right; exact ⟨hs, by omega⟩
      · omega
/-- what is chosen -/
def Chosen (l : List Int) (L : List Tk) : Prop := expL L = l ∧ goodL 0 L ∧ tellL L = l.length ∧ costL L ≤ l.length + l.length / 128 + 1 ∧ ∀ c, (∀ x ∈ l, x = c) → costL L ≤ 9 + l.length / 20
theorem LoopI.done {l : List Int} {acc : List Tk} {fr : Nat} {M : Lit → Option Int} (h : LoopI l acc fr l.length M) (hb : ∀ x ∈ l, 0 ≤ x ∧ x < 256) : Chosen l (acc ++ litsT l fr l.length (cntL fr l.length)) := by
  obtain ⟨L, hL, h1, h2, h3, h4⟩ := h.ci.done hb
  subst hL
  refine ⟨h1, h2, h3, h4, fun c hc => ?_⟩
  have hfi := h.fi
  have hl := lits_cost l fr l.length (Nat.le_refl _) hfi hb (cntL fr l.length) (Nat.le_refl _)
  have hcm : min (fr + 128 * cntL fr l.length) l.length = l.length := by unfold cntL; omega
  rw [hcm] at hl
  rw [costL_app, show costL (litsT l fr l.length (cntL fr l.length)) = l.length - fr + cntL fr l.length from hl]
  obtain ⟨-, h2⟩ := h.cst c hc
  unfold cntL
  rcases h2 with ⟨a1, a2, a3⟩ | ⟨a1, a2, a3⟩
  · subst a1 a2
    simp only [show costL ([] : List Tk) = 0 from rfl]
    omega
  · rcases a3 with a3 | ⟨a3, a4⟩ <;> omega
end Go.Proofs.Ytehbebpemnanoaa.F

-- LzF
namespace Go.Proofs.Ytehbebpemnanoaa.F
open Go Go.RowKit Go.Proofs.YtehbebpemnanoaaW.PrintWords Go.Proofs.YtehbebpemnanoaaW.PrintLast Go.Proofs.YtehbebpemnanoaaW.PrintMore Go.Proofs.YtehbebpemnanoaaM Go.Proofs.YtehbebpemnanoaaR
attribute [local go_sem] max2_int min2_int max_two min_two
set_option linter.unusedSimpArgs false
set_option linter.unusedVariables false
set_option maxRecDepth 100000
/-- the variables that the literal holds: the bytes, the tokens, from where -/
structure FlS (base tb tl tf : Nat) (A : Option Addr) (n c : Nat) (acc : List Tk) (fr : Nat) (lv : Value) (w : World) : Prop where
  hb : Blk w tb 25 [.slice A n c]
  hl : Blk w tl 29 [lv]
  hf : Blk w tf 3 [.int .i64 (fr : Int)]
  own : w.ownsRow base 47 3 lv acc.length (tks acc)
theorem FlS.upd {base tb tl tf : Nat} {A : Option Addr} {n c : Nat} {acc : List Tk} {fr : Nat} {lv : Value} {w w' : World} {S : Nat → Prop} (h : FlS base tb tl tf A n c acc fr lv w) (hu : Upd S w w') (h1 : ¬ S tb) (h2 : ¬ S tl) (h3 : ¬ S tf) (h4 : ∀ k, lv.ownBlock = some k → ¬ S k) : FlS base tb tl tf A n c acc fr lv w' :=
  ⟨h.hb.upd hu h1, h.hl.upd hu h2, h.hf.upd hu h3, hu.own h.own h4⟩
theorem FlS.ne {base tb tl tf : Nat} {A : Option Addr} {n c : Nat} {acc : List Tk} {fr : Nat} {lv : Value} {w : World} (h : FlS base tb tl tf A n c acc fr lv w) : tb ≠ tl ∧ tb ≠ tf ∧ tl ≠ tf ∧ (∀ k, lv.ownBlock = some k → k ≠ tb ∧ k ≠ tl ∧ k ≠ tf) := by
  have h1 := h.hb; have h2 := h.hl; have h3 := h.hf
  unfold Blk at h1 h2 h3
  refine ⟨fun e => ?_, fun e => ?_, fun e => ?_, fun k hk => ⟨fun e => ?_, fun e => ?_, fun e => ?_⟩⟩
  · rw [e, h2] at h1; simp at h1
  · rw [e, h3] at h1; simp at h1
  · rw [e, h3] at h2; simp at h2
  · exact own_ne h.own h.hb (by decide) (by rw [← e, hk])
  · exact own_ne h.own h.hl (by decide) (by rw [← e, hk])
  · exact own_ne h.own h.hf (by decide) (by rw [← e, hk])
def FlB (tl tf : Nat) (lv : Value) (k : Nat) : Prop := k = tl ∨ k = tf ∨ lv.ownBlock = some k
set_option maxHeartbeats 8000000 in
theorem flush_c (w0 w : World) (base tb tl tf : Nat) (A : Option Addr) (n c : Nat) (l : List Int) (acc : List Tk) (fr tp : Nat) (lv : Value) (hr : Kd.C (Kd.int .u8) w0 A n l) (hG0 : Grew w0 w) (hB0 : base = w0.heap.size) (hn : l.length = n) (hc : n ≤ c) (hn2 : n ≤ 1000000) (htp : tp ≤ n) (hfr : fr ≤ tp) (hfl : FlS base tb tl tf A n c acc fr lv w) (hbase : base ≤ w.heap.size) (hacc : acc.length ≤ 1000000)
    (hbs : base ≤ tl ∧ base ≤ tf) :
    Calls Try.prog 28 #[.int .i64 (tp : Int), .pointer (some ⟨tf, 0, none⟩), .pointer (some ⟨tl, 0, none⟩), .pointer (some ⟨tb, 0, none⟩)] w
      (Does (FlB tl tf lv) w (fun w' v => v = .tuple #[] ∧ ∃ lv', FlS base tb tl tf A n c (acc ++ litsT l fr tp (cntL fr tp)) tp lv' w' ∧ ∀ k, lv'.ownBlock = some k → lv.ownBlock = some k ∨ w.heap.size ≤ k)) := by
  have HR := Lib.hid (fun w' (h : Upd (FlB tl tf lv) w w') => Kd.C_below hr (((Upd.of_grew (S := fun k => base ≤ k) hG0).trans (h.mono fun k _ hS => by
    rcases hS with h2 | h2 | h2
    · omega
    · omega
    · exact own_base hfl.own _ h2)).grew (fun i hi h => by omega)))
  have HN := Lib.hid hn
  have hcm : min (fr + 128 * cntL fr tp) tp = tp := by unfold cntL; omega
  have HCM := Lib.hid hcm
  have HCL := Lib.hid (cnt_ltL fr tp)
  have HCN := Lib.hid (show cntL fr tp ≤ 1000000 from by unfold cntL; omega)
  have HFL := Lib.hid hfl
  clear hr hn hcm hfl hG0 hB0
  go_enter Try.func28, Try.ntmps28
  go_wp2_with fail
  go_loopw [] (fun wr => ∃ (m : Nat) (lv' : Value), m ≤ cntL fr tp ∧ FlS base tb tl tf A n c (acc ++ litsT l fr tp m) (min (fr + 128 * m) tp) lv' wr ∧ (∀ k, lv'.ownBlock = some k → lv.ownBlock = some k ∨ w.heap.size ≤ k) ∧ Upd (FlB tl tf lv) w wr) (fun wr => tp - (intOf ((wr.cell? ⟨tf, 0, none⟩).getD undef)).toNat)
  case atStart => exact ⟨0, lv, Nat.zero_le _, by rw [show min (fr + 128 * 0) tp = fr from by omega, show acc ++ litsT l fr tp 0 = acc from by simp [litsT]]; exact HFL.out, fun k h => .inl h, Upd.refl _ _⟩
  case round =>
    obtain ⟨m, lv', hm, hfl, hfr2, hu⟩ := hrel
    obtain ⟨n1, n2, n3, n4⟩ := hfl.ne
    by_cases hlt : m < cntL fr tp
    · have hp := (HCL.out m).1 hlt
      obtain ⟨p, hpe⟩ : ∃ p, p = fr + 128 * m := ⟨_, rfl⟩
      rw [← hpe] at hp
      rw [← hpe, show min p tp = p from by omega] at hfl
      obtain ⟨k, hke⟩ : ∃ k, k = min (p + 128) tp - p := ⟨_, rfl⟩
      have hk1 : 1 ≤ k := by omega
      have hk2 : k ≤ 128 := by omega
      have hpk : p + k ≤ tp := by omega
      have hnx : min (fr + 128 * (m + 1)) tp = p + k := by omega
      have m1 : (if (tp : Int) - (p : Int) < 128 then (tp : Int) - (p : Int) else 128) = (k : Int) := by split <;> omega
      have m2 : (if (128 : Int) < (tp : Int) - (p : Int) then (128 : Int) else (tp : Int) - (p : Int)) = (k : Int) := by split <;> omega
      have y1 : decide ((p : Int) < (tp : Int)) = true := decide_eq_true (by omega)
      have y2 : decide (p < tp) = true := decide_eq_true hp
      obtain ⟨AL, cL, rfl⟩ := own_slice hfl.own
      obtain ⟨S, hS⟩ : ∃ S, S = strOfNums (litC l fr tp m) := ⟨_, rfl⟩
      have hll : (litC l fr tp m).length = k := by
        rw [litC_len l fr tp m (by rw [HN.out]; omega), ← hpe, hke]
      have hcv : ∀ wx, Grew wr wx → (convert 25 9 (.slice (A.map (fun x => x.add p)) k (c - p))).run Try.prog wx = .ok (.string S) wx := fun wx h => by
        obtain ⟨A', c', hv, _, hC⟩ := mid_row (l := l) (s := litC l fr tp m) (m := p) (L := k) (by rw [HN.out]; exact HR.out wx (hu.trans (Upd.of_grew h))) (by rw [HN.out]; exact hc) (by rw [HN.out]; omega) (by unfold litC; rw [← hpe, show min (p + 128) tp = p + k from by omega]) hll
        rw [hll] at hv hC
        have hcv := Kd.C_string (P := Try.prog) (c := c') Try.underlying25 Try.underlying5 Try.underlying9 hC
        rw [← hv, ← hS, if_neg (by omega)] at hcv
        exact hcv
      obtain ⟨ad, hA⟩ : ∃ ad, A = some ad := by
        obtain ⟨ad, hA, -⟩ := row_cell (l := l) (by rw [HN.out]; exact HR.out wr hu) p (by rw [HN.out]; omega)
        exact ⟨ad, hA⟩
      subst hA
      rw [show Option.map (fun x : Addr => x.add p) (some ad) = some (ad.add p) from rfl] at hcv
      have HCV := Lib.hid hcv
      have CL := Lib.hid (show ∀ wx, Grew wr wx → wx.cell? ⟨tl, 0, none⟩ = some (.slice AL (acc ++ litsT l fr tp m).length cL) from fun wx h => by rw [(hfl.hl.grew h).at_]; rfl)
      have CB := Lib.hid (show ∀ wx, Grew wr wx → wx.cell? ⟨tb, 0, none⟩ = some (.slice (some ad) n c) from fun wx h => by rw [(hfl.hb.grew h).at_]; rfl)
      have CF := Lib.hid (show ∀ wx, Grew wr wx → wx.cell? ⟨tf, 0, none⟩ = some (.int .i64 (p : Int)) from fun wx h => by rw [(hfl.hf.grew h).at_]; rfl)
      have cf := CF.out wr (Grew.refl _)
      obtain ⟨nl, hnl⟩ : ∃ nl, nl = (acc ++ litsT l fr tp m).length := ⟨_, rfl⟩
      have hnlb : nl ≤ 2000000 := by
        rw [hnl, List.length_append]
        have : (litsT l fr tp m).length = m := by simp [litsT]
        have := HCN.out
        omega
      have HFL2 := Lib.hid hfl
      have hown := hfl.own
      rw [← hnl] at hown CL n4 hfr2
      have HO := Lib.hid hown
      have HNL := Lib.hid hnl
      have HS := Lib.hid hS
      have HU := Lib.hid hu
      have HFR := Lib.hid hfr2
      have HPE := Lib.hid hpe
      have HNX := Lib.hid hnx
      have hlr := own_lt hown
      have hBw : base ≤ wr.heap.size := Nat.le_trans hbase hu.size
      have z1 : (p : Int) ≤ (p : Int) + (k : Int) := by omega
      have z2 : (p : Int) + (k : Int) ≤ (c : Int) := by omega
      have z3 : ((p : Int) + (k : Int)).toNat = p + k := by omega
      have z4 : ¬ c = p := by omega
      have z5 : (0 : Int) ≤ (p : Int) + (k : Int) := by omega
      have z7 : p + k - p = k := by omega
      have z6 : IntKind.i64.wrap ((p : Int) + (k : Int)) = (p : Int) + (k : Int) := by rw [IntWalk.i64_in _ (by omega)]
      clear hfl hcv hS hll hown hnl hu hfr2 hpe hnx hke
      go_wp2_with fail
      apply region_grew [Is _, Is _, Is _, Is _, Is _, Is _, Is _, Is _, Is _, OneC 47 [.int .i64 0, .int .i64 0, .string S] (.slice AL nl cL)] [([(2, none)], none), ([(3, none)], none), ([(1, none)], none), ([(1, none)], none), ([(5, none)], none), ([(16, some 3), (17, some 4)], none), ([(14, some 1), (15, some 2), (18, some 5)], none), ([(19, some 6)], none), ([(20, some 7)], none), ([(21, some 8)], none)] [(22, 9), (13, 0), (14, 1), (15, 2), (16, 3), (17, 4), (18, 5), (19, 6), (20, 7), (21, 8)] rfl (by kernel_rfl) (by kernel_rfl) (show Stable Grew _ from ⟨Is.stable _, Is.stable _, Is.stable _, Is.stable _, Is.stable _, Is.stable _, Is.stable _, Is.stable _, Is.stable _, OneC.stable _ _ _, trivial⟩)
      · show OpsHold _ _ _ _ _ _ _ _ _
        refine ⟨fun a_ wx hR hD K hK => ?_, ?_⟩
        · have hG : Grew wr wx := (Grew.drew _).trans hR
          simp [Deps, Dep, at_, Is] at hD
          have e_ := CL.out wx hG
          go_simp
          exact hK _ _ (Grew.refl _) rfl
        refine ⟨fun a_ wx hR hD K hK => ?_, ?_⟩
        · have hG : Grew wr wx := (Grew.drew _).trans hR
          simp [Deps, Dep, at_, Is] at hD
          have e_ := CB.out wx hG
          go_simp
          exact hK _ _ (Grew.refl _) rfl
        refine ⟨fun a_ wx hR hD K hK => ?_, ?_⟩
        · have hG : Grew wr wx := (Grew.drew _).trans hR
          simp [Deps, Dep, at_, Is] at hD
          have e_ := CF.out wx hG
          go_simp
          exact hK _ _ (Grew.refl _) rfl
        refine ⟨fun a_ wx hR hD K hK => ?_, ?_⟩
        · have hG : Grew wr wx := (Grew.drew _).trans hR
          simp [Deps, Dep, at_, Is] at hD
          have e_ := CF.out wx hG
          go_simp
          exact hK _ _ (Grew.refl _) rfl
        refine ⟨fun a_ wx hR hD K hK => ?_, ?_⟩
        · have hG : Grew wr wx := (Grew.drew _).trans hR
          simp [Deps, Dep, at_, Is] at hD
          go_simp
          exact hK _ _ (Grew.refl _) rfl
        refine ⟨fun a_ wx hR hD K hK => ?_, ?_⟩
        · have hG : Grew wr wx := (Grew.drew _).trans hR
          simp [Deps, Dep, at_, Is] at hD
          obtain ⟨hd0, hd1⟩ := hD
          go_simp
          exact hK _ _ (Grew.refl _) rfl
        refine ⟨fun a_ wx hR hD K hK => ?_, ?_⟩
        · have hG : Grew wr wx := (Grew.drew _).trans hR
          simp [Deps, Dep, at_, Is] at hD
          obtain ⟨hd0, hd1, hd2⟩ := hD
          go_simp
          exact hK _ _ (Grew.refl _) rfl
        refine ⟨fun a_ wx hR hD K hK => ?_, ?_⟩
        · have hG : Grew wr wx := (Grew.drew _).trans hR
          simp [Deps, Dep, at_, Is] at hD
          have e_ := HCV.out wx hG
          go_simp
          exact hK _ _ (Grew.refl _) rfl
        refine ⟨fun a_ wx hR hD K hK => ?_, ?_⟩
        · have hG : Grew wr wx := (Grew.drew _).trans hR
          simp [Deps, Dep, at_, Is] at hD
          go_simp
          exact hK _ _ (Grew.refl _) rfl
        refine ⟨fun a_ wx hR hD K hK => ?_, ?_⟩
        · have hG : Grew wr wx := (Grew.drew _).trans hR
          simp [Deps, Dep, at_, Is] at hD
          go_simp
          exact hK _ _ (Grew.alloc _ _) (OneC.new (fun k hk => Nat.lt_of_lt_of_le (hlr k hk) hG.size))
        trivial
      · show EndHold _ _ _ _ _ _ _
        intro v22
        refine end_all (xs := [_, _, _, _, _, _, _, _, _]) ⟨rfl, rfl, rfl, rfl, rfl, rfl, rfl, rfl, rfl, trivial⟩ ?_
        rintro w2 hR1 ⟨-, hOne⟩
        refine ⟨?_⟩
        have hG_w2 : Grew wr w2 := (Grew.drew _).trans hR1
        clear hR1
        simp only [Act.put, List.setIfInBounds_toArray, List.set_cons_succ, List.set_cons_zero, dropN, putEach]
        obtain ⟨g1, rfl, h2, h3⟩ := hOne
        obtain ⟨v1, w3, hrun, hro, hgr1, hat⟩ := app_cells (P := Try.prog) w2 base 29 47 29 (.agg #[.int .i64 0, .int .i64 0, .string ⟨#[]⟩]) 3 32 Try.underlying29 infoTk rfl (by decide) (by decide) (.slice AL nl cL) nl (tks (acc ++ litsT l fr tp m)) g1 [.int .i64 0, .int .i64 0, .string S] rfl (by intro v hv; simp at hv; rcases hv with rfl | rfl | rfl <;> rfl) (pw_own_below HO.out hG_w2) h2 (Nat.le_trans hBw hG_w2.size) (by omega)
        obtain ⟨A4, c4, rfl⟩ := own_slice hro
        have HRUN := Lib.hid hrun
        have hu3 : Upd (fun k => (Value.slice AL nl cL).ownBlock = some k) wr w3 := (Upd.of_grew hG_w2).then_ (Upd.of_grown hgr1) (fun _ _ h => h)
        have hl3 := HFL2.out.hl.upd hu3 (fun e => (n4 tl e).2.1 rfl)
        have hf3 := HFL2.out.hf.upd hu3 (fun e => (n4 tf e).2.2 rfl)
        have hb3 := HFL2.out.hb.upd hu3 (fun e => (n4 tb e).1 rfl)
        have q1 := hl3.at_ 0
        have f1 := hl3.fz 0
        have q2 := hf3.at_ 0
        have f2 := hf3.fz 0
        simp only [List.getElem?_cons_zero] at q1 q2
        have n3' : ¬ tf = tl := fun e => n3 e.symm
        have HRO := Lib.hid hro
        have HAT := Lib.hid hat
        have HU3 := Lib.hid hu3
        have HL3 := Lib.hid hl3
        have HF3 := Lib.hid hf3
        have HB3 := Lib.hid hb3
        clear hro hat hu3 hl3 hf3 hb3 hrun hgr1 h2 h3 hlr cf
        refine wpList_app rfl _ _ _ rfl rfl rfl HRUN.out ?_
        go_wp2_with fail
        have hs : Upd (fun k => k = tl ∨ k = tf) w3 ((w3.setCell ⟨tl, 0, none⟩ (.slice A4 (nl + 1) c4)).setCell ⟨tf, 0, none⟩ (.int .i64 ((p : Int) + (k : Int)))) :=
          Upd.set (S := fun k => k = tl ∨ k = tf) (p := ⟨tf, 0, none⟩) (Upd.set (S := fun k => k = tl ∨ k = tf) (p := ⟨tl, 0, none⟩) (Upd.refl _ _) (.inl (.inl rfl)) _) (.inl (.inr rfl)) _
        have hlF := (HL3.out.set 0 (.slice A4 (nl + 1) c4)).far (p := ⟨tf, 0, none⟩) n3 (.int .i64 ((p : Int) + (k : Int)))
        have hfF := (HF3.out.far (p := ⟨tl, 0, none⟩) n3' (.slice A4 (nl + 1) c4)).set 0 (.int .i64 ((p : Int) + (k : Int)))
        have hne4 : ∀ k, (Value.slice A4 (nl + 1) c4).ownBlock = some k → ¬ (k = tl ∨ k = tf) := fun k hk h => by
          rcases h with h | h
          · exact own_ne HRO.out HL3.out (by decide) (by rw [← h, hk])
          · exact own_ne HRO.out HF3.out (by decide) (by rw [← h, hk])
        have hlit : acc ++ litsT l fr tp (m + 1) = (acc ++ litsT l fr tp m) ++ [⟨0, 0, S⟩] := by rw [litsT_succ, HS.out, List.append_assoc]
        have hlen : (acc ++ litsT l fr tp (m + 1)).length = nl + 1 := by rw [hlit, List.length_append, ← HNL.out]; rfl
        have hcf := hfF.at_ 0
        simp only [List.set_cons_zero, List.getElem?_cons_zero] at hcf
        have hcf0 := CF.out wr (Grew.refl _)
        go_roundw
        case rel =>
          refine ⟨m + 1, .slice A4 (nl + 1) c4, hlt, ⟨HB3.out.upd hs (fun h => h.elim n1 n2), hlF, ?_, ?_⟩, ?_, ?_⟩
          · rw [HNX.out]
            have := hfF
            simp only [List.set_cons_zero] at this
            rw [show ((p + k : Nat) : Int) = (p : Int) + (k : Int) from by omega]
            exact this
          · rw [hlen, hlit, tks_snoc]
            exact hs.own HRO.out hne4
          · intro k' hk'
            rcases HAT.out with h | ⟨k2, h, hk2⟩
            · exact HFR.out k' (h ▸ hk')
            · rw [h] at hk'
              obtain rfl := Option.some.inj hk'
              exact .inr (Nat.le_trans HU.out.size (Nat.le_trans hG_w2.size hk2))
          · refine (HU.out.then_ HU3.out (fun i hi h => ?_)).trans (hs.mono fun i _ h => h.elim .inl (fun h => .inr (.inl h)))
            rcases HFR.out i h with h2 | h2
            · exact .inr (.inr h2)
            · omega
        case measure =>
          rw [hcf, hcf0]
          simp [intOf]
          omega
    · obtain rfl : m = cntL fr tp := by omega
      rw [HCM.out] at hfl
      have y1 : decide ((tp : Int) < (tp : Int)) = false := decide_eq_false (by omega)
      have y2 : decide (tp < tp) = false := decide_eq_false (by omega)
      have c1 : wr.cell? ⟨tf, 0, none⟩ = some (.int .i64 (tp : Int)) := by rw [hfl.hf.at_]; rfl
      have HFL2 := Lib.hid hfl
      have HU := Lib.hid hu
      have HFR := Lib.hid hfr2
      clear hfl hu hfr2
      go_wp2_with fail
      refine bodyPost_ret (results_none rfl _ _ _) rfl ?_
      exact ⟨_, rfl, ⟨rfl, lv', HFL2.out, HFR.out⟩, HU.out⟩
end Go.Proofs.Ytehbebpemnanoaa.F
