/- What a call may change: blocks of a set S, and what is new since; all else stays. And blocks that are known whole. -/
import Derived.Test.YtaeobiilihklhaaOwn
import Derived.Lib.Hide
import Derived.Maps.AppendAt
namespace Go.Proofs.Ytaeobiilihklhaa.F
open Go Go.RowKit Go.Proofs.YtaeobiilihklhaaW.PrintWords Go.Proofs.YtaeobiilihklhaaW.PrintLast Go.Proofs.YtaeobiilihklhaaW.PrintMore Go.Proofs.YtaeobiilihklhaaR
set_option linter.unusedSimpArgs false
set_option linter.unusedVariables false
/-- all but the blocks of S stays -/
structure Upd (S : Nat → Prop) (w w' : World) : Prop where
  os : w'.os = w.os
  tape : w'.tape = w.tape
  output : w'.output = w.output
  size : w.heap.size ≤ w'.heap.size
  block : ∀ k, k < w.heap.size → ¬ S k → w'.heap[k]? = w.heap[k]?
theorem Upd.refl (S : Nat → Prop) (w : World) : Upd S w w := ⟨rfl, rfl, rfl, Nat.le_refl _, fun _ _ _ => rfl⟩
theorem Upd.of_grew {S : Nat → Prop} {w w' : World} (h : Grew w w') : Upd S w w' := ⟨h.os, h.tape, h.output, h.size, fun k hk _ => h.block k hk⟩
theorem Upd.then_ {S S2 : Nat → Prop} {a b c : World} (h : Upd S a b) (k : Upd S2 b c) (hs : ∀ i, i < a.heap.size → S2 i → S i) : Upd S a c :=
  ⟨k.os.trans h.os, k.tape.trans h.tape, k.output.trans h.output, Nat.le_trans h.size k.size, fun i hi hn => (k.block i (Nat.lt_of_lt_of_le hi h.size) (fun h2 => hn (hs i hi h2))).trans (h.block i hi hn)⟩
theorem Upd.trans {S : Nat → Prop} {a b c : World} (h : Upd S a b) (k : Upd S b c) : Upd S a c := h.then_ k fun _ _ h => h
theorem Upd.mono {S S2 : Nat → Prop} {a b : World} (h : Upd S a b) (hs : ∀ i, i < a.heap.size → S i → S2 i) : Upd S2 a b :=
  ⟨h.os, h.tape, h.output, h.size, fun i hi hn => h.block i hi (fun h2 => hn (hs i hi h2))⟩
theorem Upd.grew {S : Nat → Prop} {a b : World} (h : Upd S a b) (hs : ∀ i, i < a.heap.size → ¬ S i) : Grew a b := ⟨h.os, h.tape, h.output, h.size, fun i hi => h.block i hi (hs i hi)⟩
theorem Upd.below {S : Nat → Prop} {a b : World} {B : Nat} (h : Upd S a b) (hB : B ≤ a.heap.size) (hs : ∀ i, S i → B ≤ i) : Below B a b :=
  ⟨h.os, h.tape, h.output, h.size, fun i hi => h.block i (Nat.lt_of_lt_of_le hi hB) (fun h2 => by have := hs i h2; omega)⟩
theorem Upd.set {S : Nat → Prop} {a b : World} (h : Upd S a b) {p : Addr} (hp : S p.block ∨ a.heap.size ≤ p.block) (u : Value) : Upd S a (b.setCell p u) :=
  ⟨h.os, h.tape, h.output, by simp [World.setCell]; exact h.size, fun i hi hn => by
    rw [Below.heap_setCell b p u i (fun e => by subst e; rcases hp with hp | hp; exact hn hp; omega)]
    exact h.block i hi hn⟩
theorem Upd.kept {S : Nat → Prop} {a b : World} (h : Upd S a b) : Kept a b S := ⟨h.size, fun i hi hn => h.block i hi hn⟩
theorem Upd.blk {S : Nat → Prop} {a b : World} {g : Nat} {o : Obj} (h : Upd S a b) (hb : a.heap[g]? = some o) (hn : ¬ S g) : b.heap[g]? = some o := (h.block g (blk_lt hb) hn).trans hb
theorem Upd.cell {S : Nat → Prop} {a b : World} {p : Addr} {v : Value} (h : Upd S a b) (hb : a.cell? p = some v) (hn : ¬ S p.block) : b.cell? p = some v := cell_kept hb h.kept hn
theorem Upd.grown {S : Nat → Prop} {a b c : World} {row : Option Nat} (h : Upd S a b) (hg : b.grownBy c row) (hr : ∀ k, row = some k → S k ∨ a.heap.size ≤ k) : Upd S a c :=
  ⟨hg.os.trans h.os, hg.tape.trans h.tape, hg.output.trans h.output, Nat.le_trans h.size hg.size, fun i hi hn => (hg.block i (Nat.lt_of_lt_of_le hi h.size) (fun e => by rcases hr i e.symm with h2 | h2; exact hn h2; omega)).trans (h.block i hi hn)⟩
theorem Upd.own {S : Nat → Prop} {w w1 : World} {base : Nat} {e : TypeId} {size n : Nat} {v : Value} {xs : List Value} (hu : Upd S w w1) (h : w.ownsRow base e size v n xs) (hn : ∀ k, v.ownBlock = some k → ¬ S k) : w1.ownsRow base e size v n xs :=
  own_move h fun k hk => hu.block k (own_lt h k hk) (hn k hk)
/-- what a call comes to: what it returns, and which blocks it may change -/
def Does (S : Nat → Prop) (w : World) (V : World → Value → Prop) (e : Ending) (w' : World) : Prop := ∃ v, e = .returned v ∧ V w' v ∧ Upd S w w'
theorem does_of_tells {S : Nat → Prop} {P : Program} {f : FuncId} {args : Array Value} {w : World} {V : World → Value → Prop} (h : Calls P f args w (Tells w V)) : Calls P f args w (Does S w V) :=
  h.mono fun _ _ ⟨v, he, hv, hg⟩ => ⟨v, he, hv, Upd.of_grew hg⟩
theorem tells_of_does {S : Nat → Prop} {P : Program} {f : FuncId} {args : Array Value} {w : World} {V : World → Value → Prop} (h : Calls P f args w (Does S w V)) (hs : ∀ i, i < w.heap.size → ¬ S i) : Calls P f args w (Tells w V) :=
  h.mono fun _ _ ⟨v, he, hv, hg⟩ => ⟨v, he, hv, hg.grew hs⟩
/-- a block known whole: its cells -/
def Blk (w : World) (g : Nat) (t : TypeId) (cs : List Value) : Prop := w.heap[g]? = some (.cells cs.toArray t (0, 0))
theorem Blk.lt {w : World} {g : Nat} {t : TypeId} {cs : List Value} (h : Blk w g t cs) : g < w.heap.size := blk_lt h
theorem Blk.at_ {w : World} {g : Nat} {t : TypeId} {cs : List Value} (h : Blk w g t cs) (i : Nat) : w.cell? ⟨g, i, none⟩ = cs[i]? := by
  rw [blk_cell h]; simp
theorem Blk.fz {w : World} {g : Nat} {t : TypeId} {cs : List Value} (h : Blk w g t cs) (i : Nat) : w.frozen? ⟨g, i, none⟩ = false := blk_frozen h i
theorem Blk.set {w : World} {g : Nat} {t : TypeId} {cs : List Value} (h : Blk w g t cs) (i : Nat) (u : Value) : Blk (w.setCell ⟨g, i, none⟩ u) g t (cs.set i u) := by
  have := blk_set h i u
  unfold Blk
  rw [this]; simp
theorem Blk.far {w : World} {g : Nat} {t : TypeId} {cs : List Value} (h : Blk w g t cs) {p : Addr} (hp : g ≠ p.block) (u : Value) : Blk (w.setCell p u) g t cs := blk_far h hp u
theorem Blk.upd {S : Nat → Prop} {w w' : World} {g : Nat} {t : TypeId} {cs : List Value} (h : Blk w g t cs) (hu : Upd S w w') (hn : ¬ S g) : Blk w' g t cs := hu.blk h hn
theorem Blk.grew {w w' : World} {g : Nat} {t : TypeId} {cs : List Value} (h : Blk w g t cs) (hu : Grew w w') : Blk w' g t cs := blk_below h hu
theorem Blk.new (w : World) (t : TypeId) (cs : List Value) : Blk (w.alloc (.cells cs.toArray t)) w.heap.size t cs := blk_new w _
/-- a block of numbers reads as a row -/
theorem Blk.own {w : World} {base g : Nat} {t : TypeId} {k : IntKind} {xs : List Int} {n : Nat} (h : Blk w g t (nums k xs)) (hb : base ≤ g) (hn : n ≤ xs.length) (hm : xs.length ≤ 9223372036854775807) : w.ownsRow base t 1 (.slice (some ⟨g, 0, none⟩) n xs.length) n (nums k (xs.take n)) := by
  refine ⟨by simp [nums, Nat.min_eq_left hn], .inr ⟨g, xs.length, (nums k xs).toArray, rfl, hb, h, hn, by simpa [maxLen] using hm, by simp [nums], ?_⟩⟩
  simp [nums, List.map_take]
theorem Blk.reads {w : World} {g : Nat} {t : TypeId} {k : IntKind} {xs : List Int} (h : Blk w g t (nums k xs)) (hm : xs.length ≤ 9223372036854775807) : ReadsInt w k (some ⟨g, 0, none⟩) xs.length xs :=
  ⟨rfl, hm, fun _ => ⟨_, rfl, fun i hi => by rw [add_plain, h.at_]; simp [nums, hi, List.getD_eq_getElem?_getD]⟩⟩
theorem Blk.C {w : World} {g : Nat} {t : TypeId} {k : IntKind} {xs : List Int} (h : Blk w g t (nums k xs)) (hm : xs.length ≤ 9223372036854775807) : Kd.C (Kd.int k) w (some ⟨g, 0, none⟩) xs.length xs := C_of (h.reads hm)
/-- what an append leaves: a row of one's own, in the block it had or in a new one -/
def Appended {α : Type} (enc : α → Value) (base : Nat) (e : TypeId) (v : Value) (xs : List α) (W : World) (v1 : Value) (w1 : World) : Prop :=
  w1.ownsRow base e 1 v1 xs.length (encs enc xs) ∧ W.grownBy w1 v.ownBlock ∧ (v1.ownBlock = v.ownBlock ∨ v1.ownBlock = some W.heap.size)
theorem app_row {P : Program} {α : Type} (enc : α → Value) (d : α) (h1 : ∀ x : α, (enc x).oneCell' = true) (W : World) (base : Nat) (t e ty : TypeId) (z : Value) (bytes : Nat)
    (ht : P.underlying t = some (.slice e)) (hinfo : (P.info? e).map (fun i => (i.zero, i.size, i.bytes)) = some (some z, 1, bytes)) (hz : z.cells.size = 1) (hb0 : 0 < bytes)
    (v : Value) (xs ys : List α) (A : Option Addr) (m c : Nat) (HO : W.ownsRow base e 1 v xs.length (encs enc xs)) (HR : ReadsOf enc d W A m ys) (hbase : base ≤ W.heap.size) (hl : (xs.length + m) * bytes ≤ 140737488355328) :
    ∃ v1 w1, (Builtin.append_ #[t, t] ty #[v, .slice A m c]).run P W = .ok v1 w1 ∧ Appended enc base e v (xs ++ ys) W v1 w1 := by
  obtain ⟨i0, hi, hzz⟩ := Option.map_eq_some_iff.1 hinfo
  simp only [Prod.mk.injEq] at hzz
  obtain ⟨hz0, hz1, hz2⟩ := hzz
  have hm : ys.length = m := HR.1
  have hlen : xs.length + m ≤ 140737488355328 := Nat.le_trans (Nat.le_mul_of_pos_right _ hb0) hl
  rcases Nat.eq_zero_or_pos m with h0 | hpos
  · subst h0
    obtain rfl : ys = [] := List.eq_nil_of_length_eq_zero hm
    refine ⟨v, W, ?_, by simpa using HO, World.grownBy.refl W _, .inl rfl⟩
    have hld : ∀ ad : Addr, (loadCells ad 0).run P W = .ok #[] W := fun ad => by simpa using run_loadCells_list (P := P) W ad [] (by simp)
    rcases HO.2 with ⟨rfl, hn⟩ | ⟨g, cap, cur, rfl, _, _, hnc, _⟩
    · cases A <;> simp [Builtin.append_, run_underlying ht, sizeOf, typeInfo, hi, Builtin.lenOf, Builtin.firstCells, hld]
    · cases A <;> simp [Builtin.append_, run_underlying ht, sizeOf, typeInfo, hi, Builtin.lenOf, Builtin.firstCells, hnc, storeCells, hld]
  · obtain ⟨ad, rfl, hc⟩ := HR.2.2 hpos
    have hcells : ∀ j u, (encs enc ys)[j]? = some u → W.cell? (ad.add j) = some u := by
      intro j u hu
      have hj : j < ys.length := by
        rcases Nat.lt_or_ge j ys.length with h | h
        · exact h
        · simp [encs, List.getElem?_eq_none h] at hu
      rw [encs_get (d := d) ys j hj] at hu
      rw [← hu]
      exact hc j (by omega)
    obtain ⟨v1, w1, hr, h2, h3, _, h5⟩ := run_append_own_at (P := P) W base t ty e i0 z 1 bytes ht hi hz0 hz1 hz2 hz (by omega) v xs.length (encs enc xs) HO ad m c (encs enc ys) (by simp [encs, hm]) hcells
      (by intro u hu; simp only [encs, List.mem_map] at hu; obtain ⟨q, _, rfl⟩ := hu; exact h1 q) (by simp only [maxLen]; omega) hl hbase
    exact ⟨v1, w1, hr, by simpa [encs, hm] using h2, h3, h5⟩
theorem app_num {P : Program} {k : IntKind} (W : World) (base : Nat) (t e ty : TypeId) (bytes : Nat)
    (ht : P.underlying t = some (.slice e)) (hinfo : (P.info? e).map (fun i => (i.zero, i.size, i.bytes)) = some (some (.int k 0), 1, bytes)) (hb0 : 0 < bytes)
    (v : Value) (xs ys : List Int) (A : Option Addr) (m c : Nat) (HO : W.ownsRow base e 1 v xs.length (nums k xs)) (HR : ReadsInt W k A m ys) (hbase : base ≤ W.heap.size) (hl : (xs.length + m) * bytes ≤ 140737488355328) :
    ∃ v1 w1, (Builtin.append_ #[t, t] ty #[v, .slice A m c]).run P W = .ok v1 w1 ∧ Appended (Value.int k) base e v (xs ++ ys) W v1 w1 :=
  app_row (Value.int k) 0 (fun _ => rfl) W base t e ty (.int k 0) bytes ht hinfo rfl hb0 v xs ys A m c HO HR hbase hl
theorem Appended.upd {α : Type} {enc : α → Value} {base : Nat} {e : TypeId} {v v1 : Value} {xs : List α} {W w1 : World} (h : Appended enc base e v xs W v1 w1) : Upd (fun k => v.ownBlock = some k) W w1 :=
  (Upd.refl _ W).grown h.2.1 fun k hk => .inl hk
/-- a row of one's own, cut short -/
theorem own_take {w : World} {base n m cap size : Nat} {e : TypeId} {A : Option Addr} {xs : List Value} (h : w.ownsRow base e size (.slice A n cap) n xs) (hm : m ≤ n) : w.ownsRow base e size (.slice A m cap) m (xs.take (m * size)) := by
  obtain ⟨hl, h⟩ := h
  refine ⟨by rw [List.length_take, hl]; exact Nat.min_eq_left (Nat.mul_le_mul_right _ hm), ?_⟩
  rcases h with ⟨hv, hn⟩ | ⟨g, cap', cur, hv, hb, hh, hnc, hcm, hcs, htake⟩
  · injection hv with h1 h2 h3
    subst h1 h3
    obtain rfl : m = 0 := by omega
    exact .inl ⟨rfl, rfl⟩
  · injection hv with h1 h2 h3
    subst h1 h3
    refine .inr ⟨g, cap, cur, rfl, hb, hh, by omega, hcm, hcs, ?_⟩
    rw [← htake, List.take_take, Nat.min_eq_left (Nat.mul_le_mul_right _ hm)]
/-- a slice of one element in a block of its own, which is not the row that is written -/
def One (e : TypeId) (x : Value) (vb : Value) : World → Value → Prop := fun w v => ∃ g1, v = .slice (some ⟨g1, 0, none⟩) 1 1 ∧ Blk w g1 e [x] ∧ some g1 ≠ vb.ownBlock
theorem One.stableB (e : TypeId) (x vb : Value) : ∀ w w' v, Grew w w' ∨ w.grownBy w' vb.ownBlock → One e x vb w v → One e x vb w' v :=
  fun _ _ _ hr ⟨g1, h1, h2, h3⟩ => ⟨g1, h1, hr.elim h2.grew (fun hg => blk_grown h2 hg h3), h3⟩
theorem One.stable (e : TypeId) (x vb : Value) : ∀ w w' v, Grew w w' → One e x vb w v → One e x vb w' v := fun w w' v hg => One.stableB e x vb w w' v (.inl hg)
theorem One.new {w : World} {e : TypeId} {x vb : Value} (h : ∀ k, vb.ownBlock = some k → k < w.heap.size) : One e x vb (w.alloc (.cells #[x] e)) (.slice (some ⟨w.heap.size, 0, none⟩) 1 1) :=
  ⟨_, rfl, Blk.new w e [x], fun he => by have := h _ he.symm; omega⟩
/-- the row behind an append -/
def AppV (base : Nat) (e : TypeId) (cs : List Value) (n : Nat) (vb : Value) (N : Nat) : World → Value → Prop := fun w v => w.ownsRow base e 1 v n cs ∧ (v.ownBlock = vb.ownBlock ∨ ∃ k, v.ownBlock = some k ∧ N ≤ k)
theorem Blk.reads_of {w : World} {g : Nat} {e : TypeId} {α : Type} {enc : α → Value} {d : α} {xs : List α} (h : Blk w g e (encs enc xs)) (hm : xs.length ≤ 9223372036854775807) : ReadsOf enc d w (some ⟨g, 0, none⟩) xs.length xs :=
  ⟨rfl, hm, fun _ => ⟨_, rfl, fun i hi => by rw [add_plain, h.at_]; exact encs_get xs i hi⟩⟩
theorem eval_tmp {a : Act} {t : Tmp} {v : Value} (h : a.tmps[t]?.getD undef = v) : a.eval (.tmp t) = v := by simpa [Act.eval] using h
/-- append as one operation, by the equation of its run -/
theorem wp_app {P : Program} {o : Oper} {a : Act} {w : World} {K : Act → World → Prop} {Q : Exit → Act → World → Prop} (s x : Operand) (t : TypeId)
    (ho : o.op = .call { callee := .builtin .append, args := #[s, x], argTypes := #[t, t] }) {v y : Value} (hs : a.eval s = v) (hx : a.eval x = y) {v1 : Value} {w1 : World}
    (hr : (Builtin.append_ #[t, t] o.type #[v, y]).run P w = .ok v1 w1) (h : K (a.put o.dst v1) w1) : Oper.wp P o a w K Q := by
  unfold Oper.wp execOp
  simp only [ho, resolve, invoke, builtin, Sem.run_bind, Sem.run_pure, Result.andThen_ok, List.map_toArray, List.map_cons, List.map_nil, hs, hx, hr]
  exact h
theorem wpList_app {P : Program} {ops : Array Oper} {rest : List Oper} {o : Oper} {a : Act} {w : World} {Q : Exit → Act → World → Prop} (hgd : o.guard = none) (s x : Operand) (t : TypeId)
    (ho : o.op = .call { callee := .builtin .append, args := #[s, x], argTypes := #[t, t] }) {v y : Value} (hs : a.eval s = v) (hx : a.eval x = y) {v1 : Value} {w1 : World}
    (hr : (Builtin.append_ #[t, t] o.type #[v, y]).run P w = .ok v1 w1) (h : wpList P ops Q rest (a.put o.dst v1) w1) : wpList P ops Q (o :: rest) a w :=
  wpList_plain hgd fun K hK => wp_app s x t ho hs hx hr (hK _ _ h)
theorem Upd.of_grown {w w' : World} {row : Option Nat} (h : w.grownBy w' row) : Upd (fun k => row = some k) w w' := (Upd.refl _ w).grown h fun k hk => .inl hk
theorem Upd.of_alloc_grown {w wn : World} {o : Obj} {row : Option Nat} (h : (w.alloc o).grownBy wn row) : Upd (fun k => row = some k) w wn :=
  (Upd.of_grew (Grew.alloc w o)).then_ (Upd.of_grown h) fun _ _ h => h
theorem add_block (a : Addr) (j : Nat) : (a.add j).block = a.block := by unfold Addr.add; split <;> rfl
/-- a row that is read stays, if what changes lies elsewhere -/
theorem C_upd {S : Nat → Prop} {w w' : World} {k : IntKind} {A : Option Addr} {n : Nat} {xs : List Int} (h : Kd.C (Kd.int k) w A n xs) (hu : Upd S w w') (hA : ∀ ad, A = some ad → ¬ S ad.block) : Kd.C (Kd.int k) w' A n xs := by
  obtain ⟨h1, h2, h3⟩ := reads_of h
  refine C_of ⟨h1, h2, fun hp => ?_⟩
  obtain ⟨ad, rfl, hc⟩ := h3 hp
  exact ⟨ad, rfl, fun j hj => hu.cell (hc j hj) (by rw [add_block]; exact hA ad rfl)⟩
end Go.Proofs.Ytaeobiilihklhaa.F
