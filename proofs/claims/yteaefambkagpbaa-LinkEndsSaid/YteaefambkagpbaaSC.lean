/- Texts of this seat laid together: CarM, CarN, CarO, RegU, LnkJ, LnkY, F37, CarW, CarV, CarK. -/
import Derived.Test.YteaefambkagpbaaSB
import Derived.Test.YteaefambkagpbaaSA
import Derived.Deep.CutRange
import Derived.WalkMore

-- CarM
namespace Go.Proofs.Yteaefambkagpbaa.F
open Go Go.RowKit Go.Proofs.YteaefambkagpbaaW.PrintWords Go.Proofs.YteaefambkagpbaaW.PrintLast Go.Proofs.YteaefambkagpbaaW.PrintMore Go.Proofs.YteaefambkagpbaaM Go.Proofs.YteaefambkagpbaaR
set_option linter.unusedSimpArgs false
set_option linter.unusedVariables false
set_option maxRecDepth 100000
abbrev Way := S73
def wayAt (ways : List Way) (w : Nat) : Way := ways.getD w ⟨0, 0⟩
/-- a message's parts, numbered from n on -/
def numP (n : Int) (c : List Pkt) : List Pkt := (fresh n c).map (·.f0)
theorem numP_len (n : Int) (c : List Pkt) : (numP n c).length = c.length := by simp [numP, fresh_len]
theorem numP_append (n : Int) (a b : List Pkt) : numP n (a ++ b) = numP n a ++ numP (n + a.length) b := by
  induction a generalizing n with
  | nil => simp [numP, fresh]
  | cons p a ih =>
    have := ih (n + 1)
    simp only [numP, fresh, List.cons_append, List.map_cons, List.length_cons] at this ⊢
    rw [this, show n + 1 + (a.length : Int) = n + ((a.length + 1 : Nat) : Int) from by omega]
theorem numP_at : ∀ (n : Int) (c : List Pkt) (i : Nat), (numP n c)[i]? = (c[i]?).map fun q => ⟨q.f0, n + i, q.f2, q.f3, q.f4⟩
  | n, [], i => by simp [numP, fresh]
  | n, p :: c, 0 => by simp [numP, fresh]
  | n, p :: c, i + 1 => by
    have := numP_at (n + 1) c i
    simp only [numP, fresh, List.map_cons, List.getElem?_cons_succ] at this ⊢
    rw [this, show n + 1 + (i : Int) = n + ((i + 1 : Nat) : Int) from by omega]
/-- the parts of the first n messages -/
def rawP (msgs : List ByteArray) : List Pkt := (msgs.map cutP).flatten
def allP (msgs : List ByteArray) (n : Nat) : List Pkt := numP 0 (rawP (msgs.take n))
theorem rawP_append (a b : List ByteArray) : rawP (a ++ b) = rawP a ++ rawP b := by simp [rawP]
theorem allP_succ (msgs : List ByteArray) (n : Nat) (m : ByteArray) (h : msgs[n]? = some m) : allP msgs (n + 1) = allP msgs n ++ numP (allP msgs n).length (cutP m) := by
  unfold allP
  rw [List.take_add_one, h]
  simp only [Option.toList_some]
  rw [rawP_append, numP_append, numP_len]
  simp [rawP]
theorem allP_num (msgs : List ByteArray) (n i : Nat) (p : Pkt) (h : (allP msgs n)[i]? = some p) : p.f1 = i := by
  unfold allP at h
  rw [numP_at] at h
  cases hq : (rawP (msgs.take n))[i]? with
  | none => rw [hq] at h; cases h
  | some q =>
    rw [hq] at h
    simp only [Option.map_some, Option.some.injEq] at h
    rw [← h]
    simp
/-- what a part is -/
def PartOk (p : Pkt) : Prop := p.f0 = false ∧ p.f4 = 0 ∧ p.f3.size ≤ 200 ∧ (p.f2 = true ∨ p.f3.size = 200)
theorem cutN_ok : ∀ (k : Nat) (m : ByteArray), m.size ≤ 200 * k + 200 → ∀ p ∈ cutN k m, PartOk p
  | 0, m, h, p, hp => by
    simp only [cutN, List.mem_singleton] at hp
    subst hp
    exact ⟨rfl, rfl, by simp only; omega, .inl rfl⟩
  | k + 1, m, h, p, hp => by
    simp only [cutN] at hp
    split at hp
    · rename_i hb
      rcases List.mem_cons.1 hp with rfl | hp
      · refine ⟨rfl, rfl, ?_, .inr ?_⟩ <;> simp only [ByteArray.size_extract] <;> omega
      · exact cutN_ok k _ (by rw [ByteArray.size_extract]; omega) p hp
    · rename_i hb
      simp only [List.mem_singleton] at hp
      subst hp
      exact ⟨rfl, rfl, by simp only; omega, .inl rfl⟩
theorem rawP_ok (msgs : List ByteArray) : ∀ p ∈ rawP msgs, PartOk p := by
  intro p hp
  simp only [rawP, List.mem_flatten, List.mem_map] at hp
  obtain ⟨l, ⟨m, -, rfl⟩, hp⟩ := hp
  exact cutN_ok m.size m (by omega) p hp
theorem allP_ok (msgs : List ByteArray) (n i : Nat) (p : Pkt) (h : (allP msgs n)[i]? = some p) : PartOk p := by
  unfold allP at h
  rw [numP_at] at h
  cases hq : (rawP (msgs.take n))[i]? with
  | none => rw [hq] at h; cases h
  | some q =>
    rw [hq] at h
    simp only [Option.map_some, Option.some.injEq] at h
    have := rawP_ok _ q (List.mem_of_getElem? hq)
    rw [← h]
    exact this
theorem right_of (p : Pkt) (h : PartOk p) (h0 : 0 ≤ p.f1) (h1 : p.f1 ≤ 1000000) : rightP ⟨p.f0, p.f1, p.f2, p.f3, p.f4⟩ = true := by
  obtain ⟨h2, h3, h4, h5⟩ := h
  unfold rightP
  rw [h2, h3]
  simp
  refine ⟨⟨h0, by omega⟩, h4, ?_⟩
  rcases h5 with h | h
  · exact .inl h
  · exact .inr h
/-! ### the messages of some parts -/
def stepW (s : List ByteArray × ByteArray × Int) (x : Pkt) : List ByteArray × ByteArray × Int :=
  if x.f2 = true ∨ s.2.2 + 1 = 21 then (s.1 ++ [s.2.1 ++ x.f3], ⟨#[]⟩, 0) else (s.1, s.2.1 ++ x.f3, s.2.2 + 1)
theorem fold_num (s : List ByteArray × ByteArray × Int) (n : Int) (c : List Pkt) : (numP n c).foldl stepW s = c.foldl stepW s := by
  induction c generalizing s n with
  | nil => rfl
  | cons p c ih => simp only [numP, fresh, List.map_cons, List.foldl_cons] at ih ⊢; rw [ih]; rfl
theorem numP_take (n : Int) (c : List Pkt) (i : Nat) : (numP n c).take i = numP n (c.take i) := by
  induction c generalizing n i with
  | nil => simp [numP, fresh]
  | cons p c ih =>
    cases i with
    | zero => simp [numP, fresh]
    | succ i =>
      have := ih (n + 1) i
      simp only [numP, fresh, List.map_cons, List.take_succ_cons] at this ⊢
      rw [this]
theorem empty_append (b : ByteArray) : (⟨#[]⟩ : ByteArray) ++ b = b := by
  apply ByteArray.ext
  simp [ByteArray.data_append]
theorem fold_cutN : ∀ (k : Nat) (m : ByteArray) (W : List ByteArray) (b : ByteArray) (n : Int), 0 ≤ n → n + (cutN k m).length ≤ 21 → (cutN k m).foldl stepW (W, b, n) = (W ++ [b ++ m], ⟨#[]⟩, 0)
  | 0, m, W, b, n, h0, h => by simp [cutN, stepW]
  | k + 1, m, W, b, n, h0, h => by
    simp only [cutN] at h ⊢
    split
    · rename_i hb
      rw [if_pos hb] at h
      have h1 := (cutN_len k (m.extract 200 m.size)).1
      simp only [List.length_cons] at h
      rw [List.foldl_cons]
      have e : stepW (W, b, n) ⟨false, 0, false, m.extract 0 200, 0⟩ = (W, b ++ m.extract 0 200, n + 1) := by
        unfold stepW
        rw [if_neg]
        simp only
        rintro (h | h)
        · cases h
        · omega
      rw [e, fold_cutN k _ _ _ _ (by omega) (by omega), ByteArray.append_assoc, ByteArray.extract_append_extract]
      have e2 : m.extract (min 0 200) (max 200 m.size) = m := by
        rw [show min 0 200 = 0 from rfl, Nat.max_eq_right (by omega)]
        exact ByteArray.extract_zero_size
      rw [e2]
    · simp [stepW]
theorem fold_part : ∀ (k : Nat) (m : ByteArray) (W : List ByteArray) (b : ByteArray) (n : Int) (i : Nat), 0 ≤ n → n + (cutN k m).length ≤ 21 → i < (cutN k m).length → (((cutN k m).take i).foldl stepW (W, b, n)).1 = W
  | 0, m, W, b, n, i, h0, h, hi => by
    simp only [cutN, List.length_singleton] at hi
    obtain rfl : i = 0 := by omega
    simp
  | k + 1, m, W, b, n, i, h0, h, hi => by
    simp only [cutN] at h hi ⊢
    split
    · rename_i hb
      rw [if_pos hb] at h hi
      have h1 := (cutN_len k (m.extract 200 m.size)).1
      simp only [List.length_cons] at h hi
      cases i with
      | zero => simp
      | succ i =>
        rw [List.take_succ_cons, List.foldl_cons]
        have e : stepW (W, b, n) ⟨false, 0, false, m.extract 0 200, 0⟩ = (W, b ++ m.extract 0 200, n + 1) := by
          unfold stepW
          rw [if_neg]
          simp only
          rintro (h | h)
          · cases h
          · omega
        rw [e]
        exact fold_part k _ _ _ _ i (by omega) (by omega) (by omega)
    · rename_i hb
      rw [if_neg hb] at hi
      simp only [List.length_singleton] at hi
      obtain rfl : i = 0 := by omega
      simp
theorem fold_cut (m : ByteArray) (hm : m.size ≤ 4096) (W : List ByteArray) : (cutP m).foldl stepW (W, ⟨#[]⟩, 0) = (W ++ [m], ⟨#[]⟩, 0) := by
  have h := (cutP_len m hm).2
  unfold cutP at h ⊢
  rw [fold_cutN _ _ _ _ _ (by omega) (by omega), empty_append]
theorem fold_all : ∀ (L : List ByteArray) (W : List ByteArray), (∀ m ∈ L, m.size ≤ 4096) → (rawP L).foldl stepW (W, ⟨#[]⟩, 0) = (W ++ L, ⟨#[]⟩, 0)
  | [], W, h => by simp [rawP]
  | m :: L, W, h => by
    have e : rawP (m :: L) = cutP m ++ rawP L := by simp [rawP]
    rw [e, List.foldl_append, fold_cut m (h m (by simp)), fold_all L _ fun x hx => h x (by simp [hx])]
    simp
theorem fold_pre : ∀ (L : List ByteArray) (W : List ByteArray) (G : Nat), (∀ m ∈ L, m.size ≤ 4096) → ∃ j, j ≤ L.length ∧ (((rawP L).take G).foldl stepW (W, ⟨#[]⟩, 0)).1 = W ++ L.take j
  | [], W, G, h => ⟨0, by simp, by simp [rawP]⟩
  | m :: L, W, G, h => by
    have e : rawP (m :: L) = cutP m ++ rawP L := by simp [rawP]
    have hm := h m (by simp)
    by_cases hG : G < (cutP m).length
    · refine ⟨0, by simp, ?_⟩
      rw [e, List.take_append_of_le_length (by omega)]
      have h2 := (cutP_len m hm).2
      unfold cutP at h2 hG ⊢
      rw [fold_part _ _ _ _ _ _ (by omega) (by omega) hG]
      simp
    · obtain ⟨j, hj, h2⟩ := fold_pre L (W ++ [m]) (G - (cutP m).length) fun x hx => h x (by simp [hx])
      refine ⟨j + 1, by simp; omega, ?_⟩
      rw [e, List.take_append, List.take_of_length_le (by omega), List.foldl_append, fold_cut m hm, h2]
      simp
/-- bounds of a fold -/
theorem fold_bound : ∀ (c : List Pkt) (s : List ByteArray × ByteArray × Int), (∀ p ∈ c, PartOk p) → 0 ≤ s.2.2 → s.2.2 ≤ 20 → (s.2.1.size : Int) ≤ 200 * s.2.2 →
    0 ≤ (c.foldl stepW s).2.2 ∧ (c.foldl stepW s).2.2 ≤ 20 ∧ ((c.foldl stepW s).2.1.size : Int) ≤ 200 * (c.foldl stepW s).2.2 ∧ (c.foldl stepW s).1.length ≤ s.1.length + c.length
  | [], s, _, h0, h1, h2 => ⟨h0, h1, h2, by simp⟩
  | p :: c, s, h, h0, h1, h2 => by
    have hp := (h p (by simp)).2.2.1
    rw [List.foldl_cons]
    have hs : 0 ≤ (stepW s p).2.2 ∧ (stepW s p).2.2 ≤ 20 ∧ ((stepW s p).2.1.size : Int) ≤ 200 * (stepW s p).2.2 ∧ (stepW s p).1.length ≤ s.1.length + 1 := by
      unfold stepW
      split
      · exact ⟨by simp, by simp, by simp [ByteArray.size], by simp⟩
      · rename_i hc
        exact ⟨by simp only; omega, by simp only; omega, by simp only [ByteArray.size_append]; omega, by simp⟩
    have := fold_bound c (stepW s p) (fun x hx => h x (by simp [hx])) hs.1 hs.2.1 hs.2.2.1
    refine ⟨this.1, this.2.1, this.2.2.1, ?_⟩
    have h3 := this.2.2.2
    simp only [List.length_cons]
    omega
/-! ### the receiver -/
def RecAt (R : RSt) (k : Int) : Prop := k < R.gap ∨ (R.F k).isSome = true
structure InvR (A : List Pkt) (S G : Nat) (told : List ByteArray) (R : RSt) : Prop where
  gap : R.gap = G
  gs : G ≤ S
  sl : S ≤ A.length
  F : ∀ k x, R.F k = some x → ∃ i : Nat, k = i ∧ G ≤ i ∧ i < S ∧ A[i]? = some x
  fold : (A.take G).foldl stepW ([], ⟨#[]⟩, 0) = (told ++ R.whole, R.buf, R.n)
theorem InvR.step {A : List Pkt} {S G : Nat} {told : List ByteArray} {R : RSt} (h : InvR A S G told R) {x : Pkt} (hx : R.F R.gap = some x) : InvR A S (G + 1) told (stepR R x) := by
  obtain ⟨i, hi, h1, h2, h3⟩ := h.F _ _ hx
  have hg := h.gap
  have hiG : i = G := by omega
  subst hiG
  have htk : A.take (i + 1) = A.take i ++ [x] := by rw [List.take_add_one, h3]; rfl
  have hfold : (A.take (i + 1)).foldl stepW ([], ⟨#[]⟩, 0) = stepW (told ++ R.whole, R.buf, R.n) x := by rw [htk, List.foldl_append, h.fold]; rfl
  have hF : ∀ k y, delF R.F R.gap k = some y → ∃ j : Nat, k = j ∧ i + 1 ≤ j ∧ j < S ∧ A[j]? = some y := by
    intro k y hy
    by_cases e : k = R.gap
    · rw [e, delF_at] at hy; cases hy
    · rw [delF_ne _ e] at hy
      obtain ⟨j, hj, h4, h5, h6⟩ := h.F k y hy
      exact ⟨j, hj, by omega, h5, h6⟩
  unfold stepR
  by_cases hc : x.f2 = true ∨ R.n + 1 = 21
  · rw [if_pos hc]
    refine ⟨by simp only; omega, by omega, h.sl, hF, ?_⟩
    rw [hfold]
    unfold stepW
    rw [if_pos hc]
    simp
  · rw [if_neg hc]
    refine ⟨by simp only; omega, by omega, h.sl, hF, ?_⟩
    rw [hfold]
    unfold stepW
    rw [if_neg hc]
theorem rec_step {R : RSt} {x : Pkt} (k : Int) (h : RecAt R k) : RecAt (stepR R x) k := by
  have e1 : (stepR R x).gap = R.gap + 1 := by unfold stepR; split <;> rfl
  have e2 : (stepR R x).F = delF R.F R.gap := by unfold stepR; split <;> rfl
  unfold RecAt
  rw [e1, e2]
  rcases h with h | h
  · exact .inl (by omega)
  · by_cases e : k = R.gap
    · exact .inl (by omega)
    · exact .inr (by rw [delF_ne _ e]; exact h)
theorem InvR.drain {A : List Pkt} {S : Nat} {told : List ByteArray} : ∀ (k G : Nat) (R : RSt), InvR A S G told R → S ≤ G + k →
    ∃ G', G ≤ G' ∧ InvR A S G' told (drainR (k + 1) R) ∧ (drainR (k + 1) R).F (drainR (k + 1) R).gap = none ∧ ∀ i, RecAt R i → RecAt (drainR (k + 1) R) i := by
  intro k
  induction k with
  | zero =>
    intro G R h hS
    have hn : R.F R.gap = none := by
      cases hf : R.F R.gap with
      | none => rfl
      | some x => obtain ⟨i, hi, h1, h2, -⟩ := h.F _ _ hf; omega
    rw [drainR_stop hn]
    exact ⟨G, Nat.le_refl _, h, hn, fun _ h => h⟩
  | succ k ih =>
    intro G R h hS
    cases hf : R.F R.gap with
    | none =>
      rw [drainR_stop hf]
      exact ⟨G, Nat.le_refl _, h, hf, fun _ h => h⟩
    | some x =>
      rw [drainR_go hf]
      obtain ⟨G', h1, h2, h3, h4⟩ := ih (G + 1) _ (h.step hf) (by omega)
      exact ⟨G', by omega, h2, h3, fun i hi => h4 i (rec_step i hi)⟩
theorem InvR.take {A : List Pkt} {S G : Nat} {told : List ByteArray} {R : RSt} (h : InvR A S G told R) (h0 : R.F R.gap = none) (hS : S ≤ G + 16) {i : Nat} {p : Pkt} (hi : i < S) (hp : A[i]? = some p) (hn : p.f1 = i) :
    ∃ G', G ≤ G' ∧ InvR A S G' told (takeR R p) ∧ (takeR R p).F (takeR R p).gap = none ∧ (∀ k, RecAt R k → RecAt (takeR R p) k) ∧ RecAt (takeR R p) i := by
  unfold takeR
  rw [hn]
  by_cases hc : (i : Int) < R.gap ∨ (R.F i).isSome = true
  · rw [if_pos hc]
    exact ⟨G, Nat.le_refl _, h, h0, fun _ h => h, hc⟩
  · rw [if_neg hc]
    have hg := h.gap
    have h1 : InvR A S G told ⟨R.gap, putF R.F i p, R.whole, R.buf, R.n⟩ := by
      refine ⟨hg, h.gs, h.sl, fun k x hx => ?_, h.fold⟩
      replace hx : putF R.F i p k = some x := hx
      by_cases e : k = i
      · rw [e, putF_at] at hx
        injection hx with hx
        subst hx
        exact ⟨i, e, by omega, hi, hp⟩
      · rw [putF_ne _ _ e] at hx
        exact h.F _ _ hx
    obtain ⟨G', h2, h3, h4, h5⟩ := h1.drain 16 G _ (by omega)
    refine ⟨G', h2, h3, h4, fun k hk => h5 k ?_, h5 i (.inr (by simp only; rw [putF_at]; rfl))⟩
    rcases hk with hk | hk
    · exact .inl hk
    · refine .inr ?_
      simp only
      by_cases e : k = i
      · rw [e, putF_at]; rfl
      · rw [putF_ne _ _ e]; exact hk
theorem InvR.ok {A : List Pkt} {S G : Nat} {told : List ByteArray} {R : RSt} (h : InvR A S G told R) (hS : S ≤ G + 15) (hA : ∀ (i : Nat) (p : Pkt), A[i]? = some p → PartOk p) (hl : A.length ≤ 1000) : OkR (R.gap + 16) R := by
  have hg := h.gap
  have hb := fold_bound (A.take G) ([], ⟨#[]⟩, 0) (fun p hp => by
    obtain ⟨i, hi⟩ := List.getElem?_of_mem (List.mem_of_mem_take hp)
    exact hA i p hi) (by simp) (by simp) (by simp [ByteArray.size])
  rw [h.fold] at hb
  have h1 := h.gs
  have h2 := h.sl
  obtain ⟨b0, b1, b2, b3⟩ := hb
  simp only [List.length_append, List.length_nil, List.length_take] at b3
  refine ⟨by omega, by omega, by omega, b0, b1, b2, by omega, fun k x hx => ?_, fun k x hx => ?_⟩
  · obtain ⟨i, hi, h3, h4, -⟩ := h.F k x hx
    omega
  · obtain ⟨i, -, -, -, h5⟩ := h.F k x hx
    exact (hA i x h5).2.2.1
end Go.Proofs.Yteaefambkagpbaa.F

-- CarN
namespace Go.Proofs.Yteaefambkagpbaa.F
open Go Go.RowKit Go.Proofs.YteaefambkagpbaaW.PrintWords Go.Proofs.YteaefambkagpbaaW.PrintLast Go.Proofs.YteaefambkagpbaaW.PrintMore Go.Proofs.YteaefambkagpbaaM Go.Proofs.YteaefambkagpbaaR
set_option linter.unusedSimpArgs false
set_option linter.unusedVariables false
set_option maxRecDepth 100000
structure CSt where
  l : List Sd
  f : Int
  now : Int
  R : RSt
  parts : List Pkt
  backs : List Pkt
  told : List ByteArray
  put : Nat
  w : Nat
def putC (msgs : List ByteArray) (s : CSt) : CSt := match msgs[s.put]? with
  | none => s
  | some m => if s.l.length + (cutP m).length ≤ 64 then ⟨s.l ++ fresh (s.f + s.l.length) (cutP m), s.f, s.now, s.R, s.parts, s.backs, s.told, s.put + 1, s.w⟩ else s
def dueC (t : Int) (s : CSt) : CSt := ⟨dueT (max s.now t) s.l 8, s.f, max s.now t, s.R, s.parts, s.backs, s.told, s.put, s.w⟩
def outC (t : Int) (s : CSt) : List Pkt := dueO (max s.now t) s.l 8
def wayR (x : Way) (parts : List Pkt) (p : Pkt) (R : RSt) : RSt :=
  if x.f0 = 1 then R else if x.f0 = 2 then takeR (takeR R p) p else if x.f0 = 3 then (if 0 ≤ x.f1 then takeR R (parts.getD (x.f1 % (parts.length : Int)).toNat zPk) else R) else takeR R p
def partC (ways : List Way) (s : CSt) (p : Pkt) : CSt := ⟨s.l, s.f, s.now, wayR (wayAt ways s.w) (s.parts ++ [p]) p s.R, s.parts ++ [p], s.backs, s.told, s.put, s.w + 1⟩
def tellC (s : CSt) : CSt := ⟨s.l, s.f, s.now, ⟨s.R.gap, s.R.F, [], s.R.buf, s.R.n⟩, s.parts, s.backs, s.told ++ s.R.whole, s.put, s.w⟩
def rcpC (R : RSt) : Pkt := ⟨true, R.gap, false, ⟨#[]⟩, bitsF R.F R.gap 16⟩
def pickB (x : Way) (backs : List Pkt) (p : Pkt) : Option Pkt :=
  if x.f0 = 3 ∧ 0 ≤ x.f1 then some (backs.getD (x.f1 % (backs.length : Int)).toNat zPk) else if x.f0 = 1 then none else some p
def giveS (o : Option Pkt) (l : List Sd) (f : Int) : List Sd × Int := match o with
  | none => (l, f)
  | some q => takeS l f q.f1 q.f4
def backC (ways : List Way) (s : CSt) : CSt :=
  ⟨(giveS (pickB (wayAt ways s.w) (s.backs ++ [rcpC s.R]) (rcpC s.R)) s.l s.f).1, (giveS (pickB (wayAt ways s.w) (s.backs ++ [rcpC s.R]) (rcpC s.R)) s.l s.f).2, s.now, s.R, s.parts, s.backs ++ [rcpC s.R], s.told, s.put, s.w + 1⟩
def sentC (ways : List Way) (t : Int) (s : CSt) : CSt := (outC t s).foldl (partC ways) (dueC t s)
def roundC (msgs : List ByteArray) (ways : List Way) (t : Nat) (s : CSt) : CSt := backC ways (tellC (sentC ways t (putC msgs s)))
def startC : CSt := ⟨[], 0, 0, ⟨0, fun _ => none, [], ⟨#[]⟩, 0⟩, [], [], [], 0, 0⟩
def runC (msgs : List ByteArray) (ways : List Way) : Nat → CSt
  | 0 => startC
  | t + 1 => roundC msgs ways t (runC msgs ways t)
/-! ### what stays true -/
structure RcpOk (R : RSt) (p : Pkt) : Prop where
  f0 : p.f0 = true
  f2 : p.f2 = false
  f3 : p.f3 = ⟨#[]⟩
  n0 : 0 ≤ p.f1
  n1 : p.f1 ≤ R.gap
  b0 : 0 ≤ p.f4
  b1 : p.f4 < 65536
  b2 : p.f4 % 2 = 0
  bits : ∀ i, i < 16 → bitT p.f4 i = true → RecAt R (p.f1 + i)
structure Good (msgs : List ByteArray) (F G S : Nat) (s : CSt) : Prop where
  put : s.put ≤ msgs.length
  f : s.f = F
  fg : F ≤ G
  s8 : S ≤ F + 8
  R : InvR (allP msgs s.put) S G s.told s.R
  gap0 : s.R.F s.R.gap = none
  lf : s.l.map (·.f0) = (allP msgs s.put).drop F
  len : s.l.length ≤ 64
  sent : ∀ j x, s.l[j]? = some x → (x.f1 = true ↔ F + j < S)
  now0 : 0 ≤ s.now
  times : ∀ x ∈ s.l, 0 ≤ x.f2 ∧ x.f2 ≤ s.now
  parts : ∀ p ∈ s.parts, ∃ i : Nat, i < S ∧ (allP msgs s.put)[i]? = some p
  backs : ∀ p ∈ s.backs, RcpOk s.R p
  came : ∀ j x, s.l[j]? = some x → x.f3 = true → RecAt s.R ((F + j : Nat) : Int)
theorem Good.lenA {msgs : List ByteArray} {F G S : Nat} {s : CSt} (h : Good msgs F G S s) : F + s.l.length = (allP msgs s.put).length := by
  have h1 := congrArg List.length h.lf
  rw [List.length_map, List.length_drop] at h1
  have := h.fg
  have := h.R.gs
  have := h.R.sl
  omega
theorem Good.told {msgs : List ByteArray} {F G S : Nat} {s : CSt} (h : Good msgs F G S s) : toldN s.l = S - F := by
  have hl := h.lenA
  have hs := h.R.sl
  have h1 := h.fg
  have h2 := h.R.gs
  refine toldN_eq _ _ (fun j hj => ?_) (fun x hx => ?_)
  · have hj2 : j < s.l.length := by omega
    exact ⟨s.l[j], List.getElem?_eq_getElem hj2, (h.sent j _ (List.getElem?_eq_getElem hj2)).2 (by omega)⟩
  · have := h.sent _ x hx
    cases hf : x.f1 with
    | false => rfl
    | true => have := this.1 hf; omega
theorem Good.at_ {msgs : List ByteArray} {F G S : Nat} {s : CSt} (h : Good msgs F G S s) {j : Nat} {x : Sd} (hx : s.l[j]? = some x) : (allP msgs s.put)[F + j]? = some x.f0 := by
  have h1 := congrArg (fun l => l[j]?) h.lf
  simp only [List.getElem?_map, hx, Option.map_some, List.getElem?_drop] at h1
  exact h1.symm
theorem fresh_at : ∀ (n : Int) (c : List Pkt) (i : Nat) (x : Sd), (fresh n c)[i]? = some x → x.f1 = false ∧ x.f2 = 0 ∧ x.f3 = false
  | n, [], i, x, h => by simp [fresh] at h
  | n, p :: c, 0, x, h => by
    simp [fresh] at h
    subst h
    exact ⟨rfl, rfl, rfl⟩
  | n, p :: c, i + 1, x, h => by
    simp only [fresh, List.getElem?_cons_succ] at h
    exact fresh_at _ _ _ _ h
theorem Good.start (msgs : List ByteArray) : Good msgs 0 0 0 startC := by
  refine ⟨Nat.zero_le _, rfl, Nat.le_refl _, by omega, ⟨rfl, Nat.le_refl _, Nat.zero_le _, fun k x h => (by cases h), rfl⟩, rfl, ?_, by simp [startC], fun j x h => by simp [startC] at h, Int.le_refl _, fun x h => by simp [startC] at h, fun x h => by simp [startC] at h, fun x h => by simp [startC] at h, fun j x h => by simp [startC] at h⟩
  simp [startC, allP, rawP, numP, fresh]
theorem Good.put_ {msgs : List ByteArray} {F G S : Nat} {s : CSt} (h : Good msgs F G S s) : Good msgs F G S (putC msgs s) := by
  unfold putC
  cases hm : msgs[s.put]? with
  | none => exact h
  | some m =>
    simp only
    by_cases hc : s.l.length + (cutP m).length ≤ 64
    · rw [if_pos hc]
      have hA := allP_succ msgs s.put m hm
      have hl := h.lenA
      have hs := h.R.sl
      have h1 := h.fg
      have h2 := h.R.gs
      have hlt := (List.getElem?_eq_some_iff.1 hm).1
      have hap : ∀ i p, (allP msgs s.put)[i]? = some p → (allP msgs (s.put + 1))[i]? = some p := fun i p hp => by
        rw [hA, List.getElem?_append_left (List.getElem?_eq_some_iff.1 hp).1]; exact hp
      refine ⟨by simp only; omega, h.f, h.fg, h.s8, ⟨h.R.gap, h.R.gs, by simp only; rw [hA, List.length_append]; omega, fun k x hx => ?_, ?_⟩, h.gap0, ?_, ?_, fun j x hx => ?_, h.now0, fun x hx => ?_, fun p hp => ?_, h.backs, fun j x hx hc => ?_⟩
      · obtain ⟨i, e1, e2, e3, e4⟩ := h.R.F k x hx
        exact ⟨i, e1, e2, e3, hap _ _ e4⟩
      · simp only
        rw [hA, List.take_append_of_le_length (by omega)]
        exact h.R.fold
      · simp only
        rw [List.map_append, h.lf, hA, List.drop_append_of_le_length (by omega)]
        congr 1
        rw [h.f, ← hl]
        show numP _ _ = numP _ _
        rw [show (F : Int) + (s.l.length : Int) = ((F + s.l.length : Nat) : Int) from by omega]
      · simp only [List.length_append, fresh_len]
        exact hc
      · simp only at hx
        by_cases hj : j < s.l.length
        · rw [List.getElem?_append_left hj] at hx
          exact h.sent j x hx
        · rw [List.getElem?_append_right (by omega)] at hx
          have := (fresh_at _ _ _ _ hx).1
          rw [this]
          constructor
          · intro h; cases h
          · intro h; omega
      · simp only [List.mem_append] at hx
        rcases hx with hx | hx
        · exact h.times x hx
        · obtain ⟨i, hi⟩ := List.getElem?_of_mem hx
          have := (fresh_at _ _ _ _ hi).2.1
          have := h.now0
          simp only
          omega
      · obtain ⟨i, e1, e2⟩ := h.parts p hp
        exact ⟨i, e1, hap _ _ e2⟩
      · simp only at hx
        by_cases hj : j < s.l.length
        · rw [List.getElem?_append_left hj] at hx
          exact h.came j x hx hc
        · rw [List.getElem?_append_right (by omega)] at hx
          rw [(fresh_at _ _ _ _ hx).2.2] at hc
          cases hc
    · rw [if_neg hc]
      exact h
theorem dueT_get (N : Int) (l : List Sd) (i j : Nat) : (dueT N l i)[j]? = (l[j]?).map fun x => if j < i then dueX N x else x := by
  unfold dueT
  by_cases hj : j < ((l.take i).map (dueX N)).length
  · rw [List.getElem?_append_left hj]
    rw [List.length_map, List.length_take] at hj
    rw [List.getElem?_map, List.getElem?_take_of_lt (by omega)]
    have h2 : j < i := by omega
    simp [h2]
  · rw [List.getElem?_append_right (by omega)]
    rw [List.length_map, List.length_take] at hj ⊢
    rw [List.getElem?_drop]
    by_cases h2 : j < l.length
    · rw [show i + (j - min i l.length) = j from by omega]
      have : ¬ j < i := by omega
      simp [this]
    · rw [List.getElem?_eq_none (by omega), List.getElem?_eq_none (show l.length ≤ j by omega)]
      rfl
theorem dueX_f0 (N : Int) (x : Sd) : (dueX N x).f0 = x.f0 := by unfold dueX; split <;> rfl
theorem dueX_f3 (N : Int) (x : Sd) : (dueX N x).f3 = x.f3 := by unfold dueX; split <;> rfl
theorem dueT_f0 (N : Int) (l : List Sd) (i : Nat) : (dueT N l i).map (·.f0) = l.map (·.f0) := by
  apply List.ext_getElem?
  intro j
  rw [List.getElem?_map, List.getElem?_map, dueT_get]
  cases l[j]? with
  | none => rfl
  | some x =>
    simp only [Option.map_some]
    split
    · rw [dueX_f0]
    · rfl
theorem dueX_sent {N : Int} {x : Sd} (h : x.f3 = true → x.f1 = true) : (dueX N x).f1 = true := by
  unfold dueX
  split
  · rename_i hs
    unfold skipX at hs
    simp only [Bool.or_eq_true, Bool.and_eq_true] at hs
    rcases hs with hs | hs
    · exact h hs
    · exact hs.1
  · rfl
theorem dueX_time {N : Int} {x : Sd} (h : 0 ≤ x.f2 ∧ x.f2 ≤ N) (h0 : 0 ≤ N) : 0 ≤ (dueX N x).f2 ∧ (dueX N x).f2 ≤ N := by
  unfold dueX
  split
  · exact h
  · exact ⟨h0, Int.le_refl _⟩
theorem Good.rec_lt {msgs : List ByteArray} {F G S : Nat} {s : CSt} (h : Good msgs F G S s) {k : Nat} (hk : RecAt s.R k) : k < S := by
  have h1 := h.R.gap
  have h2 := h.R.gs
  rcases hk with hk | hk
  · omega
  · cases hf : s.R.F k with
    | none => rw [hf] at hk; cases hk
    | some x =>
      obtain ⟨i, e1, e2, e3, e4⟩ := h.R.F _ x hf
      omega
theorem Good.due {msgs : List ByteArray} {F G S : Nat} {s : CSt} (h : Good msgs F G S s) (t : Int) :
    ∃ S', S ≤ S' ∧ min (F + 8) (allP msgs s.put).length ≤ S' ∧ Good msgs F G S' (dueC t s) ∧ ∀ p ∈ outC t s, ∃ i : Nat, i < S' ∧ (allP msgs s.put)[i]? = some p := by
  have hl := h.lenA
  have hs := h.R.sl
  have h1 := h.fg
  have h2 := h.R.gs
  have h8 := h.s8
  have h0 := h.now0
  have hN : s.now ≤ max s.now t := by omega
  refine ⟨max S (min (F + 8) (allP msgs s.put).length), by omega, by omega, ⟨h.put, h.f, h.fg, by omega, ⟨h.R.gap, by omega, by simp only [dueC]; omega, fun k x hx => ?_, h.R.fold⟩, h.gap0, ?_, ?_, fun j x hx => ?_, by simp only [dueC]; omega, fun x hx => ?_, fun p hp => ?_, h.backs, fun j x hx hc => ?_⟩, fun p hp => ?_⟩
  · obtain ⟨i, e1, e2, e3, e4⟩ := h.R.F k x hx
    exact ⟨i, e1, e2, by omega, e4⟩
  · simp only [dueC]
    rw [dueT_f0]
    exact h.lf
  · simp only [dueC]
    rw [dueT_len]
    exact h.len
  · simp only [dueC] at hx
    rw [dueT_get] at hx
    cases hy : s.l[j]? with
    | none => rw [hy] at hx; cases hx
    | some y =>
      rw [hy] at hx
      simp only [Option.map_some, Option.some.injEq] at hx
      have hjl := (List.getElem?_eq_some_iff.1 hy).1
      by_cases hj : j < 8
      · rw [if_pos hj] at hx
        have : x.f1 = true := by
          rw [← hx]
          exact dueX_sent fun hc => (h.sent j y hy).2 (h.rec_lt (h.came j y hy hc))
        rw [this]
        simp only [true_iff]
        omega
      · rw [if_neg hj] at hx
        subst hx
        rw [h.sent j y hy]
        omega
  · obtain ⟨j, hj⟩ := List.getElem?_of_mem hx
    simp only [dueC] at hj
    rw [dueT_get] at hj
    cases hy : s.l[j]? with
    | none => rw [hy] at hj; cases hj
    | some y =>
      rw [hy] at hj
      simp only [Option.map_some, Option.some.injEq] at hj
      have ht := h.times y (List.mem_of_getElem? hy)
      subst hj
      simp only [dueC]
      split
      · exact dueX_time (by omega) (by omega)
      · omega
  · obtain ⟨i, e1, e2⟩ := h.parts p hp
    exact ⟨i, by omega, e2⟩
  · simp only [dueC] at hx
    rw [dueT_get] at hx
    cases hy : s.l[j]? with
    | none => rw [hy] at hx; cases hx
    | some y =>
      rw [hy] at hx
      simp only [Option.map_some, Option.some.injEq] at hx
      have : y.f3 = true := by
        rw [← hc, ← hx]
        split
        · rw [dueX_f3]
        · rfl
      exact h.came j y hy this
  · unfold outC dueO at hp
    simp only [List.mem_map, List.mem_filter] at hp
    obtain ⟨x, ⟨hx, -⟩, rfl⟩ := hp
    obtain ⟨j, hj⟩ := List.getElem?_of_mem hx
    have hj8 : j < 8 := by
      have := (List.getElem?_eq_some_iff.1 hj).1
      rw [List.length_take] at this
      omega
    rw [List.getElem?_take_of_lt hj8] at hj
    have := (List.getElem?_eq_some_iff.1 hj).1
    exact ⟨F + j, by omega, h.at_ hj⟩
/-- the receiver went on -/
theorem Good.rcv {msgs : List ByteArray} {F G G' S : Nat} {s : CSt} (h : Good msgs F G S s) {R' : RSt} (hG : G ≤ G') (hR : InvR (allP msgs s.put) S G' s.told R') (h0 : R'.F R'.gap = none) (hm : ∀ k, RecAt s.R k → RecAt R' k) (ps : List Pkt)
    (hps : ∀ p ∈ ps, ∃ i : Nat, i < S ∧ (allP msgs s.put)[i]? = some p) (w : Nat) : Good msgs F G' S ⟨s.l, s.f, s.now, R', ps, s.backs, s.told, s.put, w⟩ := by
  have hg := h.R.gap
  have hg' := hR.gap
  exact ⟨h.put, h.f, Nat.le_trans h.fg hG, h.s8, hR, h0, h.lf, h.len, h.sent, h.now0, h.times, hps, fun p hp => by
    have hb := h.backs p hp
    exact ⟨hb.f0, hb.f2, hb.f3, hb.n0, by have := hb.n1; simp only; omega, hb.b0, hb.b1, hb.b2, fun i hi hb1 => hm _ (hb.bits i hi hb1)⟩, fun j x hx hc => hm _ (h.came j x hx hc)⟩
theorem Good.tk {msgs : List ByteArray} {F G S : Nat} {s : CSt} (h : Good msgs F G S s) {p : Pkt} {i : Nat} (hi : i < S) (hp : (allP msgs s.put)[i]? = some p) :
    ∃ G', G ≤ G' ∧ InvR (allP msgs s.put) S G' s.told (takeR s.R p) ∧ (takeR s.R p).F (takeR s.R p).gap = none ∧ (∀ k, RecAt s.R k → RecAt (takeR s.R p) k) ∧ RecAt (takeR s.R p) i := by
  exact h.R.take h.gap0 (by have := h.s8; have := h.fg; omega) hi hp (allP_num _ _ _ _ hp)
end Go.Proofs.Yteaefambkagpbaa.F

-- CarO
namespace Go.Proofs.Yteaefambkagpbaa.F
open Go Go.RowKit Go.Proofs.YteaefambkagpbaaW.PrintWords Go.Proofs.YteaefambkagpbaaW.PrintLast Go.Proofs.YteaefambkagpbaaW.PrintMore Go.Proofs.YteaefambkagpbaaM Go.Proofs.YteaefambkagpbaaR
set_option linter.unusedSimpArgs false
set_option linter.unusedVariables false
set_option maxRecDepth 100000
theorem getD_mem {α : Type} (l : List α) (x : Int) (z : α) (h : 0 < l.length) : l.getD (x % (l.length : Int)).toNat z ∈ l := by
  have h1 := Int.emod_nonneg x (show (l.length : Int) ≠ 0 by omega)
  have h2 := Int.emod_lt_of_pos x (show (0 : Int) < l.length by omega)
  have h3 : (x % (l.length : Int)).toNat < l.length := by omega
  rw [List.getD_eq_getElem?_getD, List.getElem?_eq_getElem h3]
  exact List.getElem_mem h3
theorem Good.way {msgs : List ByteArray} {F G S : Nat} {s : CSt} (h : Good msgs F G S s) (x : Way) (ps : List Pkt) (hps : ∀ q ∈ ps, ∃ i : Nat, i < S ∧ (allP msgs s.put)[i]? = some q) (hp0 : 0 < ps.length) {p : Pkt} (hp : ∃ i : Nat, i < S ∧ (allP msgs s.put)[i]? = some p) :
    ∃ G', G ≤ G' ∧ InvR (allP msgs s.put) S G' s.told (wayR x ps p s.R) ∧ (wayR x ps p s.R).F (wayR x ps p s.R).gap = none ∧ (∀ k, RecAt s.R k → RecAt (wayR x ps p s.R) k) ∧ (x.f0 = 0 → RecAt (wayR x ps p s.R) p.f1) := by
  obtain ⟨i, hi, hpi⟩ := hp
  obtain ⟨G1, g1, i1, n1, m1, r1⟩ := h.tk hi hpi
  have hnum := allP_num _ _ _ _ hpi
  have h8 := h.s8
  have hfg := h.fg
  unfold wayR
  split
  · rename_i e
    exact ⟨G, Nat.le_refl _, h.R, h.gap0, fun _ h => h, fun e0 => by omega⟩
  · split
    · rename_i e1 e
      obtain ⟨G2, g2, i2, n2, m2, r2⟩ := i1.take n1 (by omega) hi hpi hnum
      exact ⟨G2, by omega, i2, n2, fun k hk => m2 _ (m1 _ hk), fun e0 => by omega⟩
    · split
      · rename_i e1 e2 e
        split
        · obtain ⟨j, hj, hpj⟩ := hps _ (getD_mem ps x.f1 zPk hp0)
          obtain ⟨G2, g2, i2, n2, m2, r2⟩ := h.tk hj hpj
          exact ⟨G2, g2, i2, n2, m2, fun e0 => by omega⟩
        · exact ⟨G, Nat.le_refl _, h.R, h.gap0, fun _ h => h, fun e0 => by omega⟩
      · exact ⟨G1, g1, i1, n1, m1, fun _ => by rw [hnum]; exact r1⟩
theorem Good.part {msgs : List ByteArray} {F G S : Nat} {s : CSt} (h : Good msgs F G S s) (ways : List Way) {p : Pkt} (hp : ∃ i : Nat, i < S ∧ (allP msgs s.put)[i]? = some p) :
    ∃ G', G ≤ G' ∧ Good msgs F G' S (partC ways s p) ∧ (∀ k, RecAt s.R k → RecAt (partC ways s p).R k) ∧ ((wayAt ways s.w).f0 = 0 → RecAt (partC ways s p).R p.f1) := by
  have hps : ∀ q ∈ s.parts ++ [p], ∃ i : Nat, i < S ∧ (allP msgs s.put)[i]? = some q := by
    intro q hq
    rcases List.mem_append.1 hq with hq | hq
    · exact h.parts q hq
    · rw [List.mem_singleton.1 hq]; exact hp
  obtain ⟨G1, g1, i1, n1, m1, r1⟩ := h.way (wayAt ways s.w) (s.parts ++ [p]) hps (by simp) hp
  exact ⟨G1, g1, h.rcv g1 i1 n1 m1 _ hps _, m1, r1⟩
theorem Good.sents {msgs : List ByteArray} {F S : Nat} (ways : List Way) : ∀ (ps : List Pkt) (s : CSt) (G : Nat), Good msgs F G S s → (∀ p ∈ ps, ∃ i : Nat, i < S ∧ (allP msgs s.put)[i]? = some p) →
    ∃ G', G ≤ G' ∧ Good msgs F G' S (ps.foldl (partC ways) s) ∧ (∀ k, RecAt s.R k → RecAt (ps.foldl (partC ways) s).R k)
  | [], s, G, h, _ => ⟨G, Nat.le_refl _, h, fun _ h => h⟩
  | p :: ps, s, G, h, hp => by
    obtain ⟨G1, g1, h1, m1, -⟩ := h.part ways (hp p (by simp))
    obtain ⟨G2, g2, h2, m2⟩ := Good.sents ways ps _ G1 h1 fun q hq => hp q (by simp [hq])
    exact ⟨G2, by omega, h2, fun k hk => m2 _ (m1 _ hk)⟩
theorem Good.tell {msgs : List ByteArray} {F G S : Nat} {s : CSt} (h : Good msgs F G S s) : Good msgs F G S (tellC s) :=
  ⟨h.put, h.f, h.fg, h.s8, ⟨h.R.gap, h.R.gs, h.R.sl, h.R.F, by have := h.R.fold; simp only [tellC, List.append_nil]; exact this⟩, h.gap0, h.lf, h.len, h.sent, h.now0, h.times, h.parts, fun p hp => by
    have hb := h.backs p hp
    exact ⟨hb.f0, hb.f2, hb.f3, hb.n0, hb.n1, hb.b0, hb.b1, hb.b2, hb.bits⟩, h.came⟩
theorem bits_val (F : MpF) (g : Int) : ∀ (n i : Nat), i < n → (bitsF F g n / 2 ^ i) % 2 = (if (F (g + i)).isSome = true then 1 else 0)
  | 0, i, h => by omega
  | n + 1, i, h => by
    have hr := bitsF_range F g n
    have hp : (0 : Int) < 2 ^ i := Int.pow_pos (by decide)
    rw [show bitsF F g (n + 1) = bitsF F g n + (if (F (g + n)).isSome = true then 2 ^ n else 0) from rfl]
    by_cases e : i = n
    · subst e
      by_cases hf : (F (g + i)).isSome = true
      · rw [if_pos hf, if_pos hf]
        rw [show bitsF F g i + 2 ^ i = bitsF F g i + 2 ^ i * 1 from by rw [Int.mul_one], Int.add_mul_ediv_left _ _ (by omega), Int.ediv_eq_zero_of_lt hr.1 hr.2]
        rfl
      · rw [if_neg hf, if_neg hf, Int.add_zero, Int.ediv_eq_zero_of_lt hr.1 hr.2]
        rfl
    · have ih := bits_val F g n i (by omega)
      rw [← ih]
      by_cases hf : (F (g + n)).isSome = true
      · rw [if_pos hf]
        have e2 : (2 : Int) ^ n = 2 ^ i * (2 * 2 ^ (n - i - 1)) := by
          rw [← Int.mul_assoc, ← Int.pow_succ, ← Int.pow_add]
          congr 1
          omega
        rw [e2, Int.add_mul_ediv_left _ _ (by omega), Int.add_mul_emod_self_left]
      · rw [if_neg hf, Int.add_zero]
theorem bits_at (F : MpF) (g : Int) (n i : Nat) (h : i < n) : bitT (bitsF F g n) i = (F (g + i)).isSome := by
  have := bits_val F g n i h
  unfold bitT
  rw [this]
  cases (F (g + i)).isSome <;> rfl
theorem rcpC_ok {R : RSt} (h0 : 0 ≤ R.gap) (hn : R.F R.gap = none) : RcpOk R (rcpC R) := by
  have hr := bitsF_range R.F R.gap 16
  have h16 : (2 : Int) ^ 16 = 65536 := by decide
  rw [h16] at hr
  refine ⟨rfl, rfl, rfl, h0, Int.le_refl _, hr.1, hr.2, ?_, fun i hi hb => ?_⟩
  · have h := bits_at R.F R.gap 16 0 (by decide)
    rw [show R.gap + ((0 : Nat) : Int) = R.gap from by simp, hn] at h
    simp only [bitT, Option.isSome_none, decide_eq_false_iff_not, Int.pow_zero, Int.ediv_one] at h
    show bitsF R.F R.gap 16 % 2 = 0
    omega
  · have h := bits_at R.F R.gap 16 i hi
    replace hb : bitT (bitsF R.F R.gap 16) i = true := hb
    rw [hb] at h
    exact .inr h.symm
theorem came1_get (k : Nat) (l : List Sd) (j : Nat) : (came1 k l)[j]? = (l[j]?).map fun x => if j = k then ⟨x.f0, x.f1, x.f2, true⟩ else x := by
  unfold came1
  cases hk : l[k]? with
  | none =>
    simp only
    cases hj : l[j]? with
    | none => rfl
    | some x =>
      have : ¬ j = k := by intro e; rw [e, hk] at hj; cases hj
      simp [this]
  | some x =>
    simp only
    by_cases e : j = k
    · subst e
      rw [List.getElem?_set_self (List.getElem?_eq_some_iff.1 hk).1, hk]
      simp
    · rw [List.getElem?_set_ne (fun h => e h.symm)]
      cases l[j]? with
      | none => rfl
      | some y => simp [e]
theorem markN_get (told : Nat) (d bits : Int) (l : List Sd) : ∀ (n j : Nat) (y : Sd), (markN told d bits n l)[j]? = some y → ∃ x, l[j]? = some x ∧ y.f0 = x.f0 ∧ y.f1 = x.f1 ∧ y.f2 = x.f2 ∧ (y.f3 = true → x.f3 = true ∨ ∃ i : Nat, i < n ∧ bitT bits i = true ∧ d + i = j)
  | 0, j, y, h => ⟨y, h, rfl, rfl, rfl, fun h => .inl h⟩
  | n + 1, j, y, h => by
    simp only [markN, mark1] at h
    split at h
    · rename_i hc
      rw [came1_get] at h
      cases hz : (markN told d bits n l)[j]? with
      | none => rw [hz] at h; cases h
      | some z =>
        rw [hz] at h
        simp only [Option.map_some, Option.some.injEq] at h
        obtain ⟨x, h1, h2, h3, h4, h5⟩ := markN_get told d bits l n j z hz
        refine ⟨x, h1, ?_⟩
        by_cases e : j = (d + n).toNat
        · rw [if_pos e] at h
          rw [← h]
          exact ⟨h2, h3, h4, fun _ => .inr ⟨n, by omega, hc.1, by have := hc.2.1; omega⟩⟩
        · rw [if_neg e] at h
          rw [← h]
          exact ⟨h2, h3, h4, fun hz => (h5 hz).imp id fun ⟨i, a, b, c⟩ => ⟨i, by omega, b, c⟩⟩
    · obtain ⟨x, h1, h2, h3, h4, h5⟩ := markN_get told d bits l n j y h
      exact ⟨x, h1, h2, h3, h4, fun hz => (h5 hz).imp id fun ⟨i, a, b, c⟩ => ⟨i, by omega, b, c⟩⟩
theorem markN_f0 (told : Nat) (d bits : Int) (l : List Sd) (n : Nat) : (markN told d bits n l).map (·.f0) = l.map (·.f0) := by
  apply List.ext_getElem?
  intro j
  rw [List.getElem?_map, List.getElem?_map]
  by_cases hj : j < l.length
  · have hj2 : j < (markN told d bits n l).length := by rw [markN_len]; exact hj
    obtain ⟨x, h1, h2, -⟩ := markN_get told d bits l n j _ (List.getElem?_eq_getElem hj2)
    rw [List.getElem?_eq_getElem hj2, h1]
    simp only [Option.map_some, h2]
  · rw [List.getElem?_eq_none (by rw [markN_len]; omega), List.getElem?_eq_none (by omega)]
theorem Good.give {msgs : List ByteArray} {F G S : Nat} {s : CSt} (h : Good msgs F G S s) {q : Pkt} (hq : RcpOk s.R q) (bs : List Pkt) (hbs : ∀ p ∈ bs, RcpOk s.R p) (w : Nat) :
    Good msgs (F + (q.f1 - F).toNat) G S ⟨(takeS s.l s.f q.f1 q.f4).1, (takeS s.l s.f q.f1 q.f4).2, s.now, s.R, s.parts, bs, s.told, s.put, w⟩ := by
  have hl := h.lenA
  have hs := h.R.sl
  have h1 := h.fg
  have h2 := h.R.gs
  have h8 := h.s8
  have ht := h.told
  have hg := h.R.gap
  have hf := h.f
  have hn0 := hq.n0
  have hn1 := hq.n1
  obtain ⟨D, hD⟩ : ∃ D, D = (q.f1 - F).toNat := ⟨_, rfl⟩
  rw [← hD]
  have hDG : F + D ≤ G := by omega
  have e : takeS s.l s.f q.f1 q.f4 = (markN (toldN (s.l.drop D)) (q.f1 - max s.f q.f1) q.f4 16 (s.l.drop D), max s.f q.f1) := by
    unfold takeS
    rw [if_neg (by omega), hf, ← hD]
  rw [e]
  have hdrop : ∀ j, (s.l.drop D)[j]? = s.l[D + j]? := fun j => List.getElem?_drop
  refine ⟨h.put, by simp only; omega, hDG, by omega, h.R, h.gap0, ?_, ?_, fun j y hy => ?_, h.now0, fun y hy => ?_, h.parts, hbs, fun j y hy hc => ?_⟩
  · simp only
    rw [markN_f0, List.map_drop, h.lf, List.drop_drop]
  · simp only
    rw [markN_len, List.length_drop]
    have := h.len
    omega
  · obtain ⟨x, g1, g2, g3, g4, g5⟩ := markN_get _ _ _ _ _ _ _ hy
    rw [hdrop] at g1
    rw [g3, h.sent _ x g1]
    omega
  · obtain ⟨j, hj⟩ := List.getElem?_of_mem hy
    obtain ⟨x, g1, g2, g3, g4, g5⟩ := markN_get _ _ _ _ _ _ _ hj
    rw [hdrop] at g1
    have := h.times x (List.mem_of_getElem? g1)
    simp only
    rw [g4]
    exact this
  · obtain ⟨x, g1, g2, g3, g4, g5⟩ := markN_get _ _ _ _ _ _ _ hy
    rw [hdrop] at g1
    rcases g5 hc with hx | ⟨i, hi, hb, hij⟩
    · have := h.came _ x g1 hx
      rw [show F + D + j = F + (D + j) from by omega]
      exact this
    · have := hq.bits i hi hb
      simp only
      rw [show ((F + D + j : Nat) : Int) = q.f1 + i from by omega]
      exact this
theorem Good.back {msgs : List ByteArray} {F G S : Nat} {s : CSt} (h : Good msgs F G S s) (ways : List Way) :
    ∃ F', F ≤ F' ∧ Good msgs F' G S (backC ways s) ∧ ((wayAt ways s.w).f0 = 0 → F' = G) := by
  have hg := h.R.gap
  have hfg := h.fg
  have hr := rcpC_ok (R := s.R) (by omega) h.gap0
  have hbs : ∀ p ∈ s.backs ++ [rcpC s.R], RcpOk s.R p := by
    intro q hq
    rcases List.mem_append.1 hq with hq | hq
    · exact h.backs q hq
    · rw [List.mem_singleton.1 hq]; exact hr
  have none_ : Good msgs F G S ⟨s.l, s.f, s.now, s.R, s.parts, s.backs ++ [rcpC s.R], s.told, s.put, s.w + 1⟩ :=
    ⟨h.put, h.f, h.fg, h.s8, h.R, h.gap0, h.lf, h.len, h.sent, h.now0, h.times, h.parts, hbs, h.came⟩
  unfold backC pickB
  split
  · rename_i hc
    refine ⟨_, ?_, h.give (hbs _ (getD_mem (s.backs ++ [rcpC s.R]) _ zPk (by simp))) _ hbs (s.w + 1), fun e0 => by omega⟩
    omega
  · split
    · exact ⟨F, Nat.le_refl _, none_, fun e0 => by omega⟩
    · refine ⟨_, ?_, h.give hr _ hbs (s.w + 1), fun e0 => ?_⟩
      · omega
      · have : (rcpC s.R).f1 = s.R.gap := rfl
        omega
theorem Good.round {msgs : List ByteArray} {F G S : Nat} {s : CSt} (h : Good msgs F G S s) (ways : List Way) (t : Nat) : ∃ F' G' S', Good msgs F' G' S' (roundC msgs ways t s) := by
  obtain ⟨S', -, -, h1, h2⟩ := h.put_.due t
  obtain ⟨G', -, h3, -⟩ := Good.sents ways _ _ _ h1 h2
  obtain ⟨F', -, h4, -⟩ := h3.tell.back ways
  exact ⟨F', G', S', h4⟩
theorem Good.run (msgs : List ByteArray) (ways : List Way) : ∀ t, ∃ F G S, Good msgs F G S (runC msgs ways t)
  | 0 => ⟨0, 0, 0, Good.start msgs⟩
  | t + 1 => by
    obtain ⟨F, G, S, h⟩ := Good.run msgs ways t
    exact h.round ways t
theorem run_whole (msgs : List ByteArray) (ways : List Way) : ∀ t, (runC msgs ways t).R.whole = []
  | 0 => rfl
  | t + 1 => rfl
/-- the messages that are told are the first ones -/
theorem run_told (msgs : List ByteArray) (ways : List Way) (hm : ∀ m ∈ msgs, m.size ≤ 4096) (t : Nat) : (runC msgs ways t).told.length ≤ (runC msgs ways t).put ∧ (runC msgs ways t).told = msgs.take (runC msgs ways t).told.length ∧ (runC msgs ways t).put ≤ msgs.length := by
  obtain ⟨F, G, S, h⟩ := Good.run msgs ways t
  have hf := h.R.fold
  rw [run_whole, List.append_nil] at hf
  unfold allP at hf
  rw [numP_take, fold_num] at hf
  obtain ⟨j, hj, h2⟩ := fold_pre (msgs.take (runC msgs ways t).put) [] G fun m hx => hm m (List.mem_of_mem_take hx)
  rw [hf] at h2
  simp only [List.nil_append] at h2
  have hp := h.put
  rw [List.length_take] at hj
  rw [List.take_take, Nat.min_eq_left (by omega)] at h2
  refine ⟨?_, ?_, hp⟩
  · rw [h2, List.length_take]; omega
  · rw [h2, List.length_take, Nat.min_eq_left (by omega)]
end Go.Proofs.Yteaefambkagpbaa.F

-- RegU
namespace Go.Proofs.Yteaefambkagpbaa.F
open Go Go.RowKit Go.Proofs.YteaefambkagpbaaR
/-- all but the blocks of S stay; those keep their cells -/
structure Frz (S : Nat → Prop) (w w' : World) : Prop where
  upd : Upd S w w'
  cell : ∀ p v, w.cell? p = some v → w'.cell? p = some v
  shape : ∀ g s, w.shape? g = some s → w'.shape? g = some s
theorem Frz.refl (S : Nat → Prop) (w : World) : Frz S w w := ⟨Upd.refl _ _, fun _ _ h => h, fun _ _ h => h⟩
theorem Frz.trans {S : Nat → Prop} {a b c : World} (h : Frz S a b) (k : Frz S b c) : Frz S a c :=
  ⟨h.upd.trans k.upd, fun p v hv => k.cell p v (h.cell p v hv), fun g s hs => k.shape g s (h.shape g s hs)⟩
theorem Frz.of_grew {S : Nat → Prop} {w w' : World} (h : Grew w w') : Frz S w w' := by
  refine ⟨Upd.of_grew h, fun p v hv => ?_, fun g s hs => ?_⟩
  · have hlt : p.block < w.heap.size := by
      rcases Nat.lt_or_ge p.block w.heap.size with h | h
      · exact h
      · simp [World.cell?, Array.getElem?_eq_none h] at hv
    rw [← hv]
    simp only [World.cell?, h.block _ hlt]
  · have hlt : g < w.heap.size := by
      rcases Nat.lt_or_ge g w.heap.size with h | h
      · exact h
      · simp [World.shape?, Array.getElem?_eq_none h] at hs
    rw [← hs]
    simp only [World.shape?, h.block _ hlt]
theorem region_bigU {P : Program} {Q : Exit → Act → World → Prop} {a0 : Act} {w0 : World} {id : Nat} {n : Nat} {l : List Oper} (S : Nat → Prop) (Rp : World → World → Prop) (ks : List Phase) (Vs : List (World → Value → Prop)) (reads : List (Reads × GuardT)) (fin : List (Tmp × Nat))
    (hn : a0.tmps.size = n) (hk : regionOk l.toArray reads fin n = true) (hK : phaseOk (mkAnc l) ks reads.length = true) (hb : ks.contains .big = true) (hm : P.follows .mixedOrders = true) (hv : ks.length = Vs.length)
    (hst : StableB (Frz S) Rp ks Vs)
    (hops : PhHold P Q (Frz S) Rp (at_ Vs) a0 w0.drew 0 l reads ks)
    (hend : EndHold (fun w w' => ∃ w1, Frz S w w1 ∧ Rp w1 w') (at_ Vs) w0.drew (Later (wpList P l.toArray Q (dropN reads l))) (fun _ => True) fin a0) :
    (Code.region id l.toArray true).wp P Q a0 w0 :=
  wp_region_big ks (at_ Vs) (Frz S) Rp reads fin _ hn hk (dropN_eq reads l) hm (Frz.refl S) (fun _ _ _ => Frz.trans) hK hb (stableB_at ks Vs hv hst) hops (endHold_later _ _ _ hend)
end Go.Proofs.Yteaefambkagpbaa.F

-- LnkJ
namespace Go.Proofs.Yteaefambkagpbaa.F
open Go Go.RowKit Go.Proofs.YteaefambkagpbaaW.PrintWords Go.Proofs.YteaefambkagpbaaW.PrintLast Go.Proofs.YteaefambkagpbaaW.PrintMore Go.Proofs.YteaefambkagpbaaM Go.Proofs.YteaefambkagpbaaR
attribute [local go_sem] max2_int min2_int max_two min_two
set_option linter.unusedSimpArgs false
set_option linter.unusedVariables false
set_option maxRecDepth 100000
theorem infoS16 : (Try.prog.info? 9).map (fun i => (i.zero, i.size, i.bytes)) = some (some (.string ⟨#[]⟩), 1, 16) := by kernel_rfl
theorem bytesOf_app (a b : ByteArray) : bytesOf (a ++ b) = bytesOf a ++ bytesOf b := by
  unfold bytesOf
  rw [← List.map_append]
  simp [ByteArray.data_append]
section
variable {B g m : Nat} {vw bp vb : Value} {gap : Int} {F : MpF} {whole : List ByteArray} {buf : ByteArray} {n : Int} {w w' : World}
theorem RcvM.ne_m (h : RcvM B g m vw bp vb gap F whole buf n w) : m ≠ g := h.map.ne_blk h.cells
theorem RcvM.ne_wg (h : RcvM B g m vw bp vb gap F whole buf n w) : vw.ownBlock ≠ some g := h.row.ne h.cells (by decide)
theorem RcvM.ne_bg (h : RcvM B g m vw bp vb gap F whole buf n w) : vb.ownBlock ≠ some g := (rowO_of_own h.own).ne h.cells (by decide)
theorem RcvM.ne_wm (h : RcvM B g m vw bp vb gap F whole buf n w) : vw.ownBlock ≠ some m := h.map.ne_row h.row
theorem RcvM.ne_bm (h : RcvM B g m vw bp vb gap F whole buf n w) : vb.ownBlock ≠ some m := h.map.ne_row (rowO_of_own h.own)
theorem RcvM.ne_wb (h : RcvM B g m vw bp vb gap F whole buf n w) : ∀ k, vw.ownBlock = some k → vb.ownBlock ≠ some k := h.row.type_ne (rowO_of_own h.own) (by decide)
/-- a map that changed -/
theorem RcvM.mapped (h : RcvM B g m vw bp vb gap F whole buf n w) {F' : MpF} (hm : MapP w' m F') (hu : Upd (fun j => j = m) w w') : RcvM B g m vw bp vb gap F' whole buf n w' :=
  ⟨h.cells.upd hu (fun e => h.ne_m e.symm), hm, h.row.upd hu (fun j hj e => h.ne_wm (by rw [hj, e])), hu.own h.own (fun j hj e => h.ne_bm (by rw [hj, e])), h.addr, h.nil, h.hg, h.hm⟩
theorem RcvM.celled (h : RcvM B g m vw bp vb gap F whole buf n w) (hu : Upd (fun j => j = g) w w') {gap' n' : Int} (hc : Blk w' g 83 [.int .i64 gap', .map (some m), vw, bp, vb, .int .i64 n']) : RcvM B g m vw bp vb gap' F whole buf n' w' :=
  ⟨hc, h.map.upd hu h.ne_m, h.row.upd hu (fun j hj e => h.ne_wg (by rw [hj, e])), hu.own h.own (fun j hj e => h.ne_bg (by rw [hj, e])), h.addr, h.nil, h.hg, h.hm⟩
theorem updG (w : World) (g i : Nat) (v : Value) : Upd (fun j => j = g) w (w.setCell ⟨g, i, none⟩ v) := Upd.set (S := fun j => j = g) (p := ⟨g, i, none⟩) (Upd.refl _ _) (.inl rfl) _
theorem RcvM.gap_ (h : RcvM B g m vw bp vb gap F whole buf n w) (x : Int) : RcvM B g m vw bp vb x F whole buf n (w.setCell ⟨g, 0, none⟩ (.int .i64 x)) := by
  have h1 := h.cells.set 0 (.int .i64 x)
  simp only [List.set_cons_zero, List.set_cons_succ] at h1
  exact h.celled (updG _ _ _ _) h1
theorem RcvM.num_ (h : RcvM B g m vw bp vb gap F whole buf n w) (x : Int) : RcvM B g m vw bp vb gap F whole buf x (w.setCell ⟨g, 5, none⟩ (.int .i64 x)) := by
  have h1 := h.cells.set 5 (.int .i64 x)
  simp only [List.set_cons_zero, List.set_cons_succ] at h1
  exact h.celled (updG _ _ _ _) h1
theorem RcvM.wrote (h : RcvM B g m vw bp vb gap F whole buf n w) {s : ByteArray} {e : Ending} (hd : WstrD B g (.int .i64 gap) (.map (some m)) vw vb (.int .i64 n) (bytesOf buf) s w e w') :
    e = .returned (.tuple #[.int .i64 (s.size : Int), .nilIface]) ∧ ∃ vb', RcvM B g m vw (.pointer (some ⟨g, 3, none⟩)) vb' gap F whole (buf ++ s) n w' ∧ Upd (rcvS g m vw vb) w w' ∧ (vb'.ownBlock = vb.ownBlock ∨ ∃ k, vb'.ownBlock = some k ∧ w.heap.size ≤ k) := by
  obtain ⟨he, vb', hc, ho, hu, hat, hz⟩ := hd
  refine ⟨he, vb', ⟨hc, h.map.upd hu ?_, h.row.upd hu ?_, by rw [bytesOf_app]; exact ho, .inr rfl, fun hs => ?_, h.hg, h.hm⟩, hu.mono ?_, hat⟩
  · rintro (e | e)
    · exact h.ne_m e
    · exact h.ne_bm e
  · rintro k hk (e | e)
    · exact h.ne_wg (by rw [hk, e])
    · exact h.ne_wb k hk e
  · rw [ByteArray.size_append] at hs
    exact hz (h.nil (by omega)) (by omega)
  · rintro j - (e | e)
    · exact .inl e
    · exact .inr (.inr (.inr e))
/-- a message is whole: behind String, the append to the whole ones, its store, and Reset -/
theorem RcvM.told_ (h : RcvM B g m vw bp vb gap F whole buf n w) {wa w1 : World} {v1 : Value} (hf : Frz (fun j => vb.ownBlock = some j) w wa) (hrow : RowO w1 B 9 1 v1 (whole.length + 1) (strs whole ++ [.string buf]))
    (hg : wa.grownBy w1 vw.ownBlock) (hat : v1.ownBlock = vw.ownBlock ∨ ∃ k, v1.ownBlock = some k ∧ w.heap.size ≤ k) :
    Blk (w1.setCell ⟨g, 2, none⟩ v1) g 83 [.int .i64 gap, .map (some m), v1, bp, vb, .int .i64 n] ∧ w1.frozen? ⟨g, 2, none⟩ = false ∧ w1.cell? ⟨g, 2, none⟩ = some vw ∧
    ∀ w3, Blk w3 g 83 [.int .i64 gap, .map (some m), v1, .pointer none, .slice none 0 0, .int .i64 n] → Upd (fun j => j = g) (w1.setCell ⟨g, 2, none⟩ v1) w3 →
      RcvM B g m v1 (.pointer none) (.slice none 0 0) gap F (whole ++ [buf]) ⟨#[]⟩ n w3 ∧ Upd (rcvS g m vw vb) w w3 := by
  have hu1 : Upd (fun j => vb.ownBlock = some j ∨ vw.ownBlock = some j) w w1 := (hf.upd.mono fun j _ e => .inl e).grown hg fun k hk => .inl (.inr hk)
  have hc1 := h.cells.upd hu1 (by
    rintro (e | e)
    · exact h.ne_bg e
    · exact h.ne_wg e)
  have hc2 := hc1.set 2 v1
  simp only [List.set_cons_zero, List.set_cons_succ] at hc2
  refine ⟨hc2, hc1.fz 2, by rw [hc1.at_]; rfl, fun w3 h3 hu3 => ?_⟩
  have hu2 := (updG w1 g 2 v1).trans hu3
  have hvg : v1.ownBlock ≠ some g := by
    rcases hat with e | ⟨k, e, hk⟩
    · rw [e]; exact h.ne_wg
    · rw [e]; intro e2; injection e2 with e2; have := h.cells.lt; omega
  have hm1 := h.map.upd hu1 (by
    rintro (e | e)
    · exact h.ne_bm e
    · exact h.ne_wm e)
  refine ⟨⟨h3, hm1.upd hu2 h.ne_m, ?_, World.ownsRow_nil _ _ _ _, .inl rfl, fun _ => rfl, h.hg, h.hm⟩, ?_⟩
  · have := hrow.upd hu2 fun k hk e => hvg (by rw [hk, e])
    rw [List.length_append, List.length_singleton, show strs (whole ++ [buf]) = strs whole ++ [.string buf] from by simp [strs]]
    exact this
  · refine (hu1.mono ?_).trans ?_
    · rintro j - (e | e)
      · exact .inr (.inr (.inr e))
      · exact .inr (.inr (.inl e))
    · have := hu2.mono (S2 := rcvS g m vw vb) fun j _ e => .inl e
      exact this
end
/-- a row of one cell that lies late -/
def OneN (e : TypeId) (x : Value) (N : Nat) : World → Value → Prop := fun w v => ∃ g1, v = .slice (some ⟨g1, 0, none⟩) 1 1 ∧ Blk w g1 e [x] ∧ N ≤ g1
theorem OneN.stableB {S : Nat → Prop} (e : TypeId) (x : Value) (N : Nat) {row : Option Nat} (hS : ∀ k, S k → k < N) (hr : ∀ k, row = some k → k < N) : ∀ w w' v, Frz S w w' ∨ w.grownBy w' row → OneN e x N w v → OneN e x N w' v := by
  rintro w w' v hg ⟨g1, h1, h2, h3⟩
  refine ⟨g1, h1, ?_, h3⟩
  rcases hg with hg | hg
  · exact h2.upd hg.upd fun e => by have := hS _ e; omega
  · exact blk_grown h2 hg fun e => by have := hr _ e.symm; omega
theorem frz_freeze (w : World) (a : Addr) (n : Nat) : Frz (fun j => j = a.block) w (w.freeze a n) := by
  refine ⟨upd_freeze _ _ _, fun p v hv => ?_, fun g s hs => ?_⟩
  · unfold World.freeze
    split
    · exact hv
    · rw [← hv]
      simp only [World.cell?, Array.getElem?_modify]
      by_cases e : a.block = p.block
      · rw [if_pos e]
        cases hq : w.heap[p.block]? with
        | none => rfl
        | some o => cases o <;> rfl
      · rw [if_neg e]
  · unfold World.freeze
    split
    · exact hs
    · rw [← hs]
      simp only [World.shape?, Array.getElem?_modify]
      by_cases e : a.block = g
      · rw [if_pos e]
        cases hq : w.heap[g]? with
        | none => rfl
        | some o => cases o <;> rfl
      · rw [if_neg e]
def StrF (vb : Value) (buf : ByteArray) (w : World) (e : Ending) (w' : World) : Prop := ∃ v, e = .returned v ∧ Is (.string buf) w' v ∧ Frz (fun j => vb.ownBlock = some j) w w'
set_option maxHeartbeats 4000000 in
/-- String, asked in a world in which the builder's bytes may be marked already -/
theorem strF_c (w0 w : World) (B g : Nat) (c0 c1 c2 bp vb c5 : Value) (buf : ByteArray) (h : Blk w0 g 83 [c0, c1, c2, bp, vb, c5]) (ho : OwnB B (bytesOf buf) w0 vb) (hnil : buf.size = 0 → vb = .slice none 0 0) (hsz : buf.size ≤ 100000) (hfz : Frz (fun j => vb.ownBlock = some j) w0 w) :
    Calls Try.prog 41 #[.pointer (some ⟨g, 3, none⟩)] w (StrF vb buf w) := by
  have HC := Lib.hid (fun wx (hG : Grew w wx) => show wx.cell? ⟨g, 4, none⟩ = some vb from (hfz.trans (Frz.of_grew hG)).cell _ _ (by rw [h.at_]; rfl))
  by_cases h0 : buf.size = 0
  · obtain rfl := hnil h0
    obtain rfl : buf = ⟨#[]⟩ := size0 h0
    clear h ho hnil hsz h0 hfz
    have r1 := fun wx : World => Lib.run_unsafeSliceData_nil (P := Try.prog) (w := wx) #[24] 95 0 0
    have r2 := fun wx : World => Lib.run_unsafeString_none (P := Try.prog) (w := wx) 95 3 9 none
    go_enter Try.func41, Try.ntmps41
    go_wp2_with fail
    apply region_grew [Is _, Is _, Is _, Is _, Is _, Is _, Is _, Is _, Is _, Is _] [([(0, none)], none), ([(3, some 0)], none), ([(4, some 1)], none), ([(5, some 2)], none), ([(6, some 3)], none), ([(0, none)], none), ([(8, some 5)], none), ([(9, some 6)], none), ([(10, some 7)], none), ([(11, some 8)], none)] [(3, 0), (4, 1), (5, 2), (6, 3), (7, 4), (8, 5), (9, 6), (10, 7), (11, 8), (12, 9)] rfl (by kernel_rfl) (by kernel_rfl) (show Stable Grew _ from ⟨Is.stable _, Is.stable _, Is.stable _, Is.stable _, Is.stable _, Is.stable _, Is.stable _, Is.stable _, Is.stable _, Is.stable _, trivial⟩)
    · show OpsHold _ _ _ _ _ _ _ _ _
      refine ⟨fun a_ wx hR hD K hK => ?_, ?_⟩
      · have hG : Grew w wx := (Grew.drew _).trans hR
        simp [Deps, Dep, at_, Is] at hD
        go_simp
        exact hK _ _ (Grew.refl _) rfl
      refine ⟨fun a_ wx hR hD K hK => ?_, ?_⟩
      · have hG : Grew w wx := (Grew.drew _).trans hR
        simp [Deps, Dep, at_, Is] at hD
        go_simp
        exact hK _ _ (Grew.refl _) rfl
      refine ⟨fun a_ wx hR hD K hK => ?_, ?_⟩
      · have hG : Grew w wx := (Grew.drew _).trans hR
        simp [Deps, Dep, at_, Is] at hD
        go_simp
        exact hK _ _ (Grew.refl _) rfl
      refine ⟨fun a_ wx hR hD K hK => ?_, ?_⟩
      · have hG : Grew w wx := (Grew.drew _).trans hR
        simp [Deps, Dep, at_, Is] at hD
        have e_ := HC.out wx hG
        go_simp
        exact hK _ _ (Grew.refl _) rfl
      refine ⟨fun a_ wx hR hD K hK => ?_, ?_⟩
      · have hG : Grew w wx := (Grew.drew _).trans hR
        simp [Deps, Dep, at_, Is] at hD
        have e_ := r1 wx
        go_simp
        exact hK _ _ (Grew.refl _) rfl
      refine ⟨fun a_ wx hR hD K hK => ?_, ?_⟩
      · have hG : Grew w wx := (Grew.drew _).trans hR
        simp [Deps, Dep, at_, Is] at hD
        go_simp
        exact hK _ _ (Grew.refl _) rfl
      refine ⟨fun a_ wx hR hD K hK => ?_, ?_⟩
      · have hG : Grew w wx := (Grew.drew _).trans hR
        simp [Deps, Dep, at_, Is] at hD
        go_simp
        exact hK _ _ (Grew.refl _) rfl
      refine ⟨fun a_ wx hR hD K hK => ?_, ?_⟩
      · have hG : Grew w wx := (Grew.drew _).trans hR
        simp [Deps, Dep, at_, Is] at hD
        go_simp
        exact hK _ _ (Grew.refl _) rfl
      refine ⟨fun a_ wx hR hD K hK => ?_, ?_⟩
      · have hG : Grew w wx := (Grew.drew _).trans hR
        simp [Deps, Dep, at_, Is] at hD
        have e_ := HC.out wx hG
        go_simp
        exact hK _ _ (Grew.refl _) rfl
      refine ⟨fun a_ wx hR hD K hK => ?_, ?_⟩
      · have hG : Grew w wx := (Grew.drew _).trans hR
        simp [Deps, Dep, at_, Is] at hD
        go_simp
        exact hK _ _ (Grew.refl _) rfl
      trivial
    · show EndHold _ _ _ _ _ _ _
      refine end_all (xs := [_, _, _, _, _, _, _, _, _, _]) ⟨rfl, rfl, rfl, rfl, rfl, rfl, rfl, rfl, rfl, rfl, trivial⟩ ?_
      rintro w2 hR1 -
      refine ⟨?_⟩
      have hG_w2 : Grew w w2 := (Grew.drew _).trans hR1
      clear hR1
      simp only [Act.put, List.setIfInBounds_toArray, List.set_cons_succ, List.set_cons_zero, dropN, putEach]
      have e_ := r2 w2
      go_wp2_with fail
      go_ret
      exact ⟨_, rfl, rfl, Frz.of_grew hG_w2⟩
  · obtain ⟨gb, cap, rfl, hcap⟩ : ∃ gb cap, vb = .slice (some ⟨gb, 0, none⟩) buf.size cap ∧ buf.size ≤ cap := by
      rcases ho.2 with ⟨_, hn⟩ | ⟨gb, cap, cur, hv, _, _, hnc, _⟩
      · rw [bytesOf_length] at hn; exact absurd hn h0
      · rw [bytesOf_length] at hv hnc; exact ⟨gb, cap, hv, hnc⟩
    have hl : buf.data.toList.length = buf.size := by rw [Array.length_toList]; rfl
    have hne : buf.data.toList ≠ [] := fun e => h0 (by rw [← hl, e]; rfl)
    have hbuf : (⟨buf.data.toList.toArray⟩ : ByteArray) = buf := by simp
    have HR2 := Lib.hid (fun wx (hG : Grew w wx) => show (Builtin.unsafeString_ #[95, 3] 9 #[.pointer (some ⟨gb, 0, none⟩), .int .i64 (buf.size : Int)]).run Try.prog wx = .ok (.string buf) (wx.freeze ⟨gb, 0, none⟩ buf.size) from by
      have hff := hfz.trans (Frz.of_grew hG)
      have hcl := ho.cells (g := gb) rfl
      obtain ⟨cur, hcur⟩ := own_cells ho (g := gb) rfl
      have hsz2 : buf.size ≤ cur.size := by
        rcases ho.2 with ⟨hv, _⟩ | ⟨g', cap', cur', hv, _, hh, hnc, _, hcs, _⟩
        · cases hv
        · injection hv with hv1 hv2 hv3
          injection hv1 with hv1
          injection hv1 with hv1
          subst hv1 hv3
          rw [hcur] at hh
          injection hh with hh
          injection hh with hh
          subst hh
          rw [hcs]; omega
      have hsh : wx.shape? gb = some (5, cur.size) := hff.shape _ _ (by simp [World.shape?, hcur])
      have h9 := Lib.run_unsafeString_row (P := Try.prog) (w := wx) 95 3 9 5 Try.underlying95 (by kernel_rfl) gb cur.size hsh buf.data.toList hne (by rw [hl]; exact hsz2) (by rw [hl]; omega) (fun j x hx => by
        have := hcl j (.int .u8 x.toNat) (by simp [nums, bytesOf, hx])
        exact hff.cell _ _ this)
      rw [hl, hbuf] at h9
      exact h9)
    have r1 := fun wx : World => Lib.run_unsafeSliceData_row (P := Try.prog) (w := wx) #[24] 95 (⟨gb, 0, none⟩ : Addr) buf.size cap (by omega)
    have HU := Lib.hid (fun wx : World => frz_freeze wx ⟨gb, 0, none⟩ buf.size)
    clear h ho hnil hl hne hbuf hsz h0 hfz
    go_enter Try.func41, Try.ntmps41
    go_wp2_with fail
    apply region_grew [Is _, Is _, Is _, Is _, Is _, Is _, Is _, Is _, Is _, Is _] [([(0, none)], none), ([(3, some 0)], none), ([(4, some 1)], none), ([(5, some 2)], none), ([(6, some 3)], none), ([(0, none)], none), ([(8, some 5)], none), ([(9, some 6)], none), ([(10, some 7)], none), ([(11, some 8)], none)] [(3, 0), (4, 1), (5, 2), (6, 3), (7, 4), (8, 5), (9, 6), (10, 7), (11, 8), (12, 9)] rfl (by kernel_rfl) (by kernel_rfl) (show Stable Grew _ from ⟨Is.stable _, Is.stable _, Is.stable _, Is.stable _, Is.stable _, Is.stable _, Is.stable _, Is.stable _, Is.stable _, Is.stable _, trivial⟩)
    · show OpsHold _ _ _ _ _ _ _ _ _
      refine ⟨fun a_ wx hR hD K hK => ?_, ?_⟩
      · have hG : Grew w wx := (Grew.drew _).trans hR
        simp [Deps, Dep, at_, Is] at hD
        go_simp
        exact hK _ _ (Grew.refl _) rfl
      refine ⟨fun a_ wx hR hD K hK => ?_, ?_⟩
      · have hG : Grew w wx := (Grew.drew _).trans hR
        simp [Deps, Dep, at_, Is] at hD
        go_simp
        exact hK _ _ (Grew.refl _) rfl
      refine ⟨fun a_ wx hR hD K hK => ?_, ?_⟩
      · have hG : Grew w wx := (Grew.drew _).trans hR
        simp [Deps, Dep, at_, Is] at hD
        go_simp
        exact hK _ _ (Grew.refl _) rfl
      refine ⟨fun a_ wx hR hD K hK => ?_, ?_⟩
      · have hG : Grew w wx := (Grew.drew _).trans hR
        simp [Deps, Dep, at_, Is] at hD
        have e_ := HC.out wx hG
        go_simp
        exact hK _ _ (Grew.refl _) rfl
      refine ⟨fun a_ wx hR hD K hK => ?_, ?_⟩
      · have hG : Grew w wx := (Grew.drew _).trans hR
        simp [Deps, Dep, at_, Is] at hD
        have e_ := r1 wx
        go_simp
        exact hK _ _ (Grew.refl _) rfl
      refine ⟨fun a_ wx hR hD K hK => ?_, ?_⟩
      · have hG : Grew w wx := (Grew.drew _).trans hR
        simp [Deps, Dep, at_, Is] at hD
        go_simp
        exact hK _ _ (Grew.refl _) rfl
      refine ⟨fun a_ wx hR hD K hK => ?_, ?_⟩
      · have hG : Grew w wx := (Grew.drew _).trans hR
        simp [Deps, Dep, at_, Is] at hD
        go_simp
        exact hK _ _ (Grew.refl _) rfl
      refine ⟨fun a_ wx hR hD K hK => ?_, ?_⟩
      · have hG : Grew w wx := (Grew.drew _).trans hR
        simp [Deps, Dep, at_, Is] at hD
        go_simp
        exact hK _ _ (Grew.refl _) rfl
      refine ⟨fun a_ wx hR hD K hK => ?_, ?_⟩
      · have hG : Grew w wx := (Grew.drew _).trans hR
        simp [Deps, Dep, at_, Is] at hD
        have e_ := HC.out wx hG
        go_simp
        exact hK _ _ (Grew.refl _) rfl
      refine ⟨fun a_ wx hR hD K hK => ?_, ?_⟩
      · have hG : Grew w wx := (Grew.drew _).trans hR
        simp [Deps, Dep, at_, Is] at hD
        go_simp
        exact hK _ _ (Grew.refl _) rfl
      trivial
    · show EndHold _ _ _ _ _ _ _
      refine end_all (xs := [_, _, _, _, _, _, _, _, _, _]) ⟨rfl, rfl, rfl, rfl, rfl, rfl, rfl, rfl, rfl, rfl, trivial⟩ ?_
      rintro w2 hR1 -
      refine ⟨?_⟩
      have hG_w2 : Grew w w2 := (Grew.drew _).trans hR1
      clear hR1
      simp only [Act.put, List.setIfInBounds_toArray, List.set_cons_succ, List.set_cons_zero, dropN, putEach]
      have e_ := HR2.out w2 hG_w2
      go_wp2_with fail
      go_ret
      refine ⟨_, rfl, rfl, (Frz.of_grew hG_w2).trans ?_⟩
      have e9 : (fun j => (Value.slice (some ⟨gb, 0, none⟩) buf.size cap).ownBlock = some j) = (fun j => j = gb) := by
        funext j
        simp [Value.ownBlock, eq_comm]
      rw [e9]
      exact HU.out w2
end Go.Proofs.Yteaefambkagpbaa.F

-- LnkY
namespace Go.Proofs.Yteaefambkagpbaa.F
open Go Go.RowKit Go.Proofs.YteaefambkagpbaaW.PrintWords Go.Proofs.YteaefambkagpbaaW.PrintLast Go.Proofs.YteaefambkagpbaaW.PrintMore Go.Proofs.YteaefambkagpbaaM Go.Proofs.YteaefambkagpbaaR
attribute [local go_sem] max2_int min2_int max_two min_two
set_option linter.unusedSimpArgs false
set_option linter.unusedVariables false
set_option maxRecDepth 100000
abbrev RcvT (B g m : Nat) (vw bp vb : Value) (s : RSt) (w : World) : Prop := RcvM B g m vw bp vb s.gap s.F s.whole s.buf s.n w
/-- where the rows may lie behind a call -/
def Late (g m : Nat) (vw vb : Value) (N : Nat) (v : Value) : Prop := ∀ k, v.ownBlock = some k → rcvS g m vw vb k ∨ N ≤ k
def RtakeD (B g m : Nat) (vw vb : Value) (s : RSt) (w : World) (e : Ending) (w' : World) : Prop :=
  ∃ b vw' bp' vb', e = .returned (.bool b) ∧ RcvT B g m vw' bp' vb' s w' ∧ Upd (rcvS g m vw vb) w w' ∧ Late g m vw vb w.heap.size vw' ∧ Late g m vw vb w.heap.size vb'
set_option maxHeartbeats 8000000 in
theorem rtake_c (w : World) (B g m : Nat) (vw bp vb : Value) (s : RSt) (p : Pkt) (K : Int) (h : RcvT B g m vw bp vb s w) (hok : OkR K s) (hK0 : K = s.gap + 16) (hK1 : K ≤ 1000000) (hp0 : p.f0 = false) (hp1 : rightP ⟨p.f0, p.f1, p.f2, p.f3, p.f4⟩ = true) (hN : p.f1 < s.gap + 16) (hB : B ≤ w.heap.size) :
    Calls Try.prog 26 #[.pointer (some ⟨g, 0, none⟩), pkV p] w (RtakeD B g m vw vb (takeR s p) w) := by
  obtain ⟨RS, hRS⟩ : ∃ RS, RS = takeR s p := ⟨_, rfl⟩
  rw [← hRS]
  have HRS := Lib.hid hRS
  obtain ⟨pf0, N, last, data, bits⟩ := p
  simp only at hp0 hp1 hN
  subst hp0
  have hr := rightR hp1
  obtain ⟨W1, hW1⟩ : ∃ W1, W1 = w.alloc (.cells #[.bool false, .int .i64 N, .bool last, .string data, .int .i64 bits] 30) := ⟨_, rfl⟩
  have hg1 : Grew w W1 := by rw [hW1]; exact Grew.alloc _ _
  obtain ⟨pb, hpb⟩ : ∃ pb, pb = w.heap.size := ⟨_, rfl⟩
  have hbk : Blk W1 pb 30 [.bool false, .int .i64 N, .bool last, .string data, .int .i64 bits] := by rw [hW1, hpb]; exact Blk.new _ _ _
  have hlt := h.lt
  have hnot : ¬ rcvS g m vw vb pb := fun e => by have := hlt pb e; omega
  have HBX := Lib.hid (fun wx (hu : Upd (rcvS g m vw vb) W1 wx) => show wx.cell? ⟨pb, 0, none⟩ = some (.bool false) ∧ wx.cell? ⟨pb, 1, none⟩ = some (.int .i64 N) ∧ wx.cell? ⟨pb, 2, none⟩ = some (.bool last) ∧ wx.cell? ⟨pb, 3, none⟩ = some (.string data) ∧ wx.cell? ⟨pb, 4, none⟩ = some (.int .i64 bits) from by
    have h9 := hbk.upd hu hnot
    exact ⟨by rw [h9.at_]; rfl, by rw [h9.at_]; rfl, by rw [h9.at_]; rfl, by rw [h9.at_]; rfl, by rw [h9.at_]; rfl⟩)
  have HSM := Lib.hid (show data.size ≤ 200 from by have := hp1; unfold rightP at this; simp at this; omega)
  have HRI := Lib.hid (fun wx => right_c (⟨false, N, last, data, bits⟩ : Pk) (by have := hp1; unfold rightP at this; simp at this; show -9223372036854775808 ≤ bits; omega) wx)
  rw [hp1] at HRI
  simp only [Pk.v] at HRI
  have HH := Lib.hid (fun wx (hG : Grew W1 wx) => h.grew (Grew.trans hg1 hG))
  have HC0 := Lib.hid (fun wx (hG : Grew W1 wx) => show wx.cell? ⟨g, 0, none⟩ = some (.int .i64 s.gap) from by rw [((h.grew (Grew.trans hg1 hG)).cells).at_]; rfl)
  have HC1 := Lib.hid (fun wx (hG : Grew W1 wx) => show wx.cell? ⟨g, 1, none⟩ = some (.map (some m)) from by rw [((h.grew (Grew.trans hg1 hG)).cells).at_]; rfl)
  have HW1 := Lib.hid hW1
  have HG1 := Lib.hid hg1
  have HPB := Lib.hid hpb
  have HOK := Lib.hid hok
  have HLT := Lib.hid hlt
  have hg0 := hok.g0
  have hgm := hok.g1
  obtain ⟨gap, hgap⟩ : ∃ gap, gap = s.gap := ⟨_, rfl⟩
  have HGAP := Lib.hid hgap
  rw [← hgap] at HC0 hg0 hgm hN hK0
  have w16 : IntKind.i64.wrap (gap + 16) = gap + 16 := IntWalk.i64_in _ (by omega)
  clear hRS hW1 hg1 hbk hnot hlt hpb h hok hp1 hr hgap
  simp only [pkV]
  by_cases hsm : N < gap
  · have d1 : decide (N < gap) = true := decide_eq_true hsm
    have hrs := Lib.hid (show RS = s from by rw [HRS.out]; unfold takeR; rw [if_pos (.inl (by rw [← HGAP.out]; exact hsm))])
    go_enter Try.func26, Try.ntmps26
    go_wp2_with fail
    rw [← HPB.out, ← HW1.out]
    apply region_grew [Is _, Is _, Is _, Is _, Is _, Is _, Is _, Is _, Is (.bool true), Is _, Is _, Is _, Is _, Is _, Is _, Is _, Is _, Is _, Is _, Is _, Is _, Is undef, Is undef, Is undef, Is undef, Is undef, Is undef, Is undef] [([(0, none)], none), ([(9, some 0)], none), ([(10, some 1)], none), ([(3, none), (11, some 2)], some (11, false)), ([(12, some 3), (11, some 2)], some (11, false)), ([(11, some 2), (13, some 4)], none), ([(14, some 5)], none), ([(3, none), (15, some 6)], some (15, false)), ([(16, some 7), (15, some 6)], some (15, false)), ([(17, some 8), (15, some 6)], some (15, false)), ([(15, some 6), (18, some 9)], none), ([(19, some 10)], none), ([(3, none), (20, some 11)], some (20, false)), ([(21, some 12), (20, some 11)], some (20, false)), ([(0, none), (20, some 11)], some (20, false)), ([(23, some 14), (20, some 11)], some (20, false)), ([(24, some 15), (20, some 11)], some (20, false)), ([(25, some 16), (20, some 11)], some (20, false)), ([(22, some 13), (26, some 17), (20, some 11)], some (20, false)), ([(20, some 11), (27, some 18)], none), ([(28, some 19)], none), ([(3, none), (29, some 20)], some (29, false)), ([(30, some 21), (29, some 20)], some (29, false)), ([(0, none), (29, some 20)], some (29, false)), ([(32, some 23), (29, some 20)], some (29, false)), ([(33, some 24), (29, some 20)], some (29, false)), ([(34, some 25), (29, some 20)], some (29, false)), ([(35, some 26), (29, some 20)], some (29, false))] [(9, 0), (10, 1), (11, 2), (12, 3), (13, 4), (14, 5), (15, 6), (16, 7), (17, 8), (18, 9), (19, 10), (20, 11), (21, 12), (22, 13), (23, 14), (24, 15), (25, 16), (26, 17), (27, 18), (28, 19), (29, 20), (30, 21), (31, 22), (32, 23), (33, 24), (34, 25), (35, 26), (36, 27)] rfl (by kernel_rfl) (by kernel_rfl) (show Stable Grew _ from ⟨Is.stable _, Is.stable _, Is.stable _, Is.stable _, Is.stable _, Is.stable _, Is.stable _, Is.stable _, Is.stable _, Is.stable _, Is.stable _, Is.stable _, Is.stable _, Is.stable _, Is.stable _, Is.stable _, Is.stable _, Is.stable _, Is.stable _, Is.stable _, Is.stable _, Is.stable _, Is.stable _, Is.stable _, Is.stable _, Is.stable _, Is.stable _, Is.stable _, trivial⟩)
    · show OpsHold _ _ _ _ _ _ _ _ _
      refine ⟨fun a_ wx hR hD K hK => ?_, ?_⟩
      · have hG : Grew W1 wx := (Grew.drew _).trans hR
        simp [Deps, Dep, at_, Is] at hD
        go_simp
        exact hK _ _ (Grew.refl _) rfl
      refine ⟨fun a_ wx hR hD K hK => ?_, ?_⟩
      · have hG : Grew W1 wx := (Grew.drew _).trans hR
        simp [Deps, Dep, at_, Is] at hD
        go_simp
        exact hK _ _ (Grew.refl _) rfl
      refine ⟨fun a_ wx hR hD K hK => ?_, ?_⟩
      · have hG : Grew W1 wx := (Grew.drew _).trans hR
        simp [Deps, Dep, at_, Is] at hD
        go_simp
        exact hK _ _ (Grew.refl _) rfl
      refine ⟨fun a_ wx hR hD => ⟨fun hgd K hK => ?_, fun hgd => ?_⟩, ?_⟩
      · have hG : Grew W1 wx := (Grew.drew _).trans hR
        clear hgd
        simp [Deps, Dep, at_, Is] at hD
        obtain ⟨hd0, hd1⟩ := hD
        go_simp
        exact hK _ _ (Grew.refl _) rfl
      · have hG : Grew W1 wx := (Grew.drew _).trans hR
        exfalso
        simp [Deps, Dep, at_, Is] at hD
        first | (simp_all; done) | (simp_all [undef]; done)
      refine ⟨fun a_ wx hR hD => ⟨fun hgd K hK => ?_, fun hgd => ?_⟩, ?_⟩
      · have hG : Grew W1 wx := (Grew.drew _).trans hR
        clear hgd
        simp [Deps, Dep, at_, Is] at hD
        obtain ⟨e0, e1, e2, e3, e4⟩ := HBX.out wx (Upd.of_grew hG)
        go_simp
        exact hK _ _ (Grew.refl _) rfl
      · have hG : Grew W1 wx := (Grew.drew _).trans hR
        exfalso
        simp [Deps, Dep, at_, Is] at hD
        first | (simp_all; done) | (simp_all [undef]; done)
      refine ⟨fun a_ wx hR hD K hK => ?_, ?_⟩
      · have hG : Grew W1 wx := (Grew.drew _).trans hR
        simp [Deps, Dep, at_, Is] at hD
        obtain ⟨hd0, hd1⟩ := hD
        go_simp
        exact hK _ _ (Grew.refl _) rfl
      refine ⟨fun a_ wx hR hD K hK => ?_, ?_⟩
      · have hG : Grew W1 wx := (Grew.drew _).trans hR
        simp [Deps, Dep, at_, Is] at hD
        go_simp
        exact hK _ _ (Grew.refl _) rfl
      refine ⟨fun a_ wx hR hD => ⟨fun hgd K hK => ?_, fun hgd => ?_⟩, ?_⟩
      · have hG : Grew W1 wx := (Grew.drew _).trans hR
        clear hgd
        simp [Deps, Dep, at_, Is] at hD
        obtain ⟨e0, e1, e2, e3, e4⟩ := HBX.out wx (Upd.of_grew hG)
        go_simp
        exact hK _ _ (Grew.refl _) rfl
      · have hG : Grew W1 wx := (Grew.drew _).trans hR
        exfalso
        simp [Deps, Dep, at_, Is] at hD
        first | (simp_all; done) | (simp_all [undef]; done)
      refine ⟨fun a_ wx hR hD => ⟨fun hgd K hK => ?_, fun hgd => ?_⟩, ?_⟩
      · have hG : Grew W1 wx := (Grew.drew _).trans hR
        clear hgd
        simp [Deps, Dep, at_, Is] at hD
        obtain ⟨hd0, hd1⟩ := hD
        go_simp
        have hcn := HRI.out wx
        with_reducible refine hcn.mono ?_
        clear hcn
        rintro e wy ⟨v, rfl, hv, hg⟩
        exact hK _ _ hg hv
      · have hG : Grew W1 wx := (Grew.drew _).trans hR
        exfalso
        simp [Deps, Dep, at_, Is] at hD
        first | (simp_all; done) | (simp_all [undef]; done)
      refine ⟨fun a_ wx hR hD => ⟨fun hgd K hK => ?_, fun hgd => ?_⟩, ?_⟩
      · have hG : Grew W1 wx := (Grew.drew _).trans hR
        clear hgd
        simp [Deps, Dep, at_, Is] at hD
        obtain ⟨hd0, hd1⟩ := hD
        go_simp
        exact hK _ _ (Grew.refl _) rfl
      · have hG : Grew W1 wx := (Grew.drew _).trans hR
        exfalso
        simp [Deps, Dep, at_, Is] at hD
        first | (simp_all; done) | (simp_all [undef]; done)
      refine ⟨fun a_ wx hR hD K hK => ?_, ?_⟩
      · have hG : Grew W1 wx := (Grew.drew _).trans hR
        simp [Deps, Dep, at_, Is] at hD
        obtain ⟨hd0, hd1⟩ := hD
        go_simp
        exact hK _ _ (Grew.refl _) rfl
      refine ⟨fun a_ wx hR hD K hK => ?_, ?_⟩
      · have hG : Grew W1 wx := (Grew.drew _).trans hR
        simp [Deps, Dep, at_, Is] at hD
        go_simp
        exact hK _ _ (Grew.refl _) rfl
      refine ⟨fun a_ wx hR hD => ⟨fun hgd K hK => ?_, fun hgd => ?_⟩, ?_⟩
      · have hG : Grew W1 wx := (Grew.drew _).trans hR
        clear hgd
        simp [Deps, Dep, at_, Is] at hD
        obtain ⟨hd0, hd1⟩ := hD
        go_simp
        exact hK _ _ (Grew.refl _) rfl
      · have hG : Grew W1 wx := (Grew.drew _).trans hR
        exfalso
        simp [Deps, Dep, at_, Is] at hD
        first | (simp_all; done) | (simp_all [undef]; done)
      refine ⟨fun a_ wx hR hD => ⟨fun hgd K hK => ?_, fun hgd => ?_⟩, ?_⟩
      · have hG : Grew W1 wx := (Grew.drew _).trans hR
        clear hgd
        simp [Deps, Dep, at_, Is] at hD
        obtain ⟨e0, e1, e2, e3, e4⟩ := HBX.out wx (Upd.of_grew hG)
        go_simp
        exact hK _ _ (Grew.refl _) rfl
      · have hG : Grew W1 wx := (Grew.drew _).trans hR
        exfalso
        simp [Deps, Dep, at_, Is] at hD
        first | (simp_all; done) | (simp_all [undef]; done)
      refine ⟨fun a_ wx hR hD => ⟨fun hgd K hK => ?_, fun hgd => ?_⟩, ?_⟩
      · have hG : Grew W1 wx := (Grew.drew _).trans hR
        clear hgd
        simp [Deps, Dep, at_, Is] at hD
        obtain ⟨hd0, hd1⟩ := hD
        go_simp
        exact hK _ _ (Grew.refl _) rfl
      · have hG : Grew W1 wx := (Grew.drew _).trans hR
        exfalso
        simp [Deps, Dep, at_, Is] at hD
        first | (simp_all; done) | (simp_all [undef]; done)
      refine ⟨fun a_ wx hR hD => ⟨fun hgd K hK => ?_, fun hgd => ?_⟩, ?_⟩
      · have hG : Grew W1 wx := (Grew.drew _).trans hR
        clear hgd
        simp [Deps, Dep, at_, Is] at hD
        obtain ⟨hd0, hd1⟩ := hD
        go_simp
        exact hK _ _ (Grew.refl _) rfl
      · have hG : Grew W1 wx := (Grew.drew _).trans hR
        exfalso
        simp [Deps, Dep, at_, Is] at hD
        first | (simp_all; done) | (simp_all [undef]; done)
      refine ⟨fun a_ wx hR hD => ⟨fun hgd K hK => ?_, fun hgd => ?_⟩, ?_⟩
      · have hG : Grew W1 wx := (Grew.drew _).trans hR
        clear hgd
        simp [Deps, Dep, at_, Is] at hD
        obtain ⟨hd0, hd1⟩ := hD
        go_simp
        exact hK _ _ (Grew.refl _) rfl
      · have hG : Grew W1 wx := (Grew.drew _).trans hR
        exfalso
        simp [Deps, Dep, at_, Is] at hD
        first | (simp_all; done) | (simp_all [undef]; done)
      refine ⟨fun a_ wx hR hD => ⟨fun hgd K hK => ?_, fun hgd => ?_⟩, ?_⟩
      · have hG : Grew W1 wx := (Grew.drew _).trans hR
        clear hgd
        simp [Deps, Dep, at_, Is] at hD
        obtain ⟨hd0, hd1⟩ := hD
        have e_ := HC0.out wx hG
        go_simp
        exact hK _ _ (Grew.refl _) rfl
      · have hG : Grew W1 wx := (Grew.drew _).trans hR
        exfalso
        simp [Deps, Dep, at_, Is] at hD
        first | (simp_all; done) | (simp_all [undef]; done)
      refine ⟨fun a_ wx hR hD => ⟨fun hgd K hK => ?_, fun hgd => ?_⟩, ?_⟩
      · have hG : Grew W1 wx := (Grew.drew _).trans hR
        clear hgd
        simp [Deps, Dep, at_, Is] at hD
        obtain ⟨hd0, hd1, hd2⟩ := hD
        go_simp
        exact hK _ _ (Grew.refl _) rfl
      · have hG : Grew W1 wx := (Grew.drew _).trans hR
        exfalso
        simp [Deps, Dep, at_, Is] at hD
        first | (simp_all; done) | (simp_all [undef]; done)
      refine ⟨fun a_ wx hR hD K hK => ?_, ?_⟩
      · have hG : Grew W1 wx := (Grew.drew _).trans hR
        simp [Deps, Dep, at_, Is] at hD
        obtain ⟨hd0, hd1⟩ := hD
        go_simp
        exact hK _ _ (Grew.refl _) rfl
      refine ⟨fun a_ wx hR hD K hK => ?_, ?_⟩
      · have hG : Grew W1 wx := (Grew.drew _).trans hR
        simp [Deps, Dep, at_, Is] at hD
        go_simp
        exact hK _ _ (Grew.refl _) rfl
      refine ⟨fun a_ wx hR hD => ⟨fun hgd K hK => ?_, fun hgd => ?_⟩, ?_⟩
      · have hG : Grew W1 wx := (Grew.drew _).trans hR
        exfalso
        simp [Deps, Dep, at_, Is] at hD
        first | (simp_all; done) | (simp_all [undef]; done)
      · exact rfl
      refine ⟨fun a_ wx hR hD => ⟨fun hgd K hK => ?_, fun hgd => ?_⟩, ?_⟩
      · have hG : Grew W1 wx := (Grew.drew _).trans hR
        exfalso
        simp [Deps, Dep, at_, Is] at hD
        first | (simp_all; done) | (simp_all [undef]; done)
      · exact rfl
      refine ⟨fun a_ wx hR hD => ⟨fun hgd K hK => ?_, fun hgd => ?_⟩, ?_⟩
      · have hG : Grew W1 wx := (Grew.drew _).trans hR
        exfalso
        simp [Deps, Dep, at_, Is] at hD
        first | (simp_all; done) | (simp_all [undef]; done)
      · exact rfl
      refine ⟨fun a_ wx hR hD => ⟨fun hgd K hK => ?_, fun hgd => ?_⟩, ?_⟩
      · have hG : Grew W1 wx := (Grew.drew _).trans hR
        exfalso
        simp [Deps, Dep, at_, Is] at hD
        first | (simp_all; done) | (simp_all [undef]; done)
      · exact rfl
      refine ⟨fun a_ wx hR hD => ⟨fun hgd K hK => ?_, fun hgd => ?_⟩, ?_⟩
      · have hG : Grew W1 wx := (Grew.drew _).trans hR
        exfalso
        simp [Deps, Dep, at_, Is] at hD
        first | (simp_all; done) | (simp_all [undef]; done)
      · exact rfl
      refine ⟨fun a_ wx hR hD => ⟨fun hgd K hK => ?_, fun hgd => ?_⟩, ?_⟩
      · have hG : Grew W1 wx := (Grew.drew _).trans hR
        exfalso
        simp [Deps, Dep, at_, Is] at hD
        first | (simp_all; done) | (simp_all [undef]; done)
      · exact rfl
      refine ⟨fun a_ wx hR hD => ⟨fun hgd K hK => ?_, fun hgd => ?_⟩, ?_⟩
      · have hG : Grew W1 wx := (Grew.drew _).trans hR
        exfalso
        simp [Deps, Dep, at_, Is] at hD
        first | (simp_all; done) | (simp_all [undef]; done)
      · exact rfl
      trivial
    · show EndHold _ _ _ _ _ _ _
      refine end_all (xs := [_, _, _, _, _, _, _, _, _, _, _, _, _, _, _, _, _, _, _, _, _, _, _, _, _, _, _, _]) ⟨rfl, rfl, rfl, rfl, rfl, rfl, rfl, rfl, rfl, rfl, rfl, rfl, rfl, rfl, rfl, rfl, rfl, rfl, rfl, rfl, rfl, rfl, rfl, rfl, rfl, rfl, rfl, rfl, trivial⟩ ?_
      rintro w2 hR1 -
      refine ⟨?_⟩
      have hG_w2 : Grew W1 w2 := (Grew.drew _).trans hR1
      clear hR1
      simp only [Act.put, List.setIfInBounds_toArray, List.set_cons_succ, List.set_cons_zero, dropN, putEach]
      have HG2 := Lib.hid hG_w2
      clear hG_w2
      go_wp2_with fail
      go_ret
      exact ⟨false, vw, bp, vb, rfl, by rw [hrs.out]; exact HH.out w2 HG2.out, Upd.of_grew (Grew.trans HG1.out HG2.out), fun k hk => .inl (.inr (.inr (.inl hk))), fun k hk => .inl (.inr (.inr (.inr hk)))⟩
  · have d1 : decide (N < gap) = false := decide_eq_false hsm
    have d2 : decide (gap + 16 ≤ N) = false := decide_eq_false (by omega)
    have hwfN : (Lit.int .i64 N).wf = true := by simp [Lit.wf, IntKind.min, IntKind.max, IntKind.bits, IntKind.signed]; omega
    have hlk := fun wx (hG : Grew W1 wx) => ((HH.out wx hG).map).look N hwfN
    obtain ⟨q, hq⟩ : ∃ q, q = (s.F N).getD zPk := ⟨_, rfl⟩
    obtain ⟨bb, hbb⟩ : ∃ bb, bb = (s.F N).isSome := ⟨_, rfl⟩
    rw [← hq, ← hbb] at hlk
    have HBB := Lib.hid hbb
    have HWF := Lib.hid hwfN
    obtain ⟨q0, q1, q2, q3, q4⟩ := q
    simp only [pkV] at hlk
    have HLK := Lib.hid hlk
    clear hq hbb hlk hwfN
    go_enter Try.func26, Try.ntmps26
    go_wp2_with fail
    rw [← HPB.out, ← HW1.out]
    apply region_grew [Is _, Is _, Is _, Is _, Is _, Is _, Is _, Is _, Is (.bool true), Is _, Is _, Is _, Is _, Is _, Is _, Is _, Is _, Is _, Is _, Is _, Is _, Is _, Is _, Is _, Is _, Is _, Is _, Is _] [([(0, none)], none), ([(9, some 0)], none), ([(10, some 1)], none), ([(3, none), (11, some 2)], some (11, false)), ([(12, some 3), (11, some 2)], some (11, false)), ([(11, some 2), (13, some 4)], none), ([(14, some 5)], none), ([(3, none), (15, some 6)], some (15, false)), ([(16, some 7), (15, some 6)], some (15, false)), ([(17, some 8), (15, some 6)], some (15, false)), ([(15, some 6), (18, some 9)], none), ([(19, some 10)], none), ([(3, none), (20, some 11)], some (20, false)), ([(21, some 12), (20, some 11)], some (20, false)), ([(0, none), (20, some 11)], some (20, false)), ([(23, some 14), (20, some 11)], some (20, false)), ([(24, some 15), (20, some 11)], some (20, false)), ([(25, some 16), (20, some 11)], some (20, false)), ([(22, some 13), (26, some 17), (20, some 11)], some (20, false)), ([(20, some 11), (27, some 18)], none), ([(28, some 19)], none), ([(3, none), (29, some 20)], some (29, false)), ([(30, some 21), (29, some 20)], some (29, false)), ([(0, none), (29, some 20)], some (29, false)), ([(32, some 23), (29, some 20)], some (29, false)), ([(33, some 24), (29, some 20)], some (29, false)), ([(34, some 25), (29, some 20)], some (29, false)), ([(35, some 26), (29, some 20)], some (29, false))] [(9, 0), (10, 1), (11, 2), (12, 3), (13, 4), (14, 5), (15, 6), (16, 7), (17, 8), (18, 9), (19, 10), (20, 11), (21, 12), (22, 13), (23, 14), (24, 15), (25, 16), (26, 17), (27, 18), (28, 19), (29, 20), (30, 21), (31, 22), (32, 23), (33, 24), (34, 25), (35, 26), (36, 27)] rfl (by kernel_rfl) (by kernel_rfl) (show Stable Grew _ from ⟨Is.stable _, Is.stable _, Is.stable _, Is.stable _, Is.stable _, Is.stable _, Is.stable _, Is.stable _, Is.stable _, Is.stable _, Is.stable _, Is.stable _, Is.stable _, Is.stable _, Is.stable _, Is.stable _, Is.stable _, Is.stable _, Is.stable _, Is.stable _, Is.stable _, Is.stable _, Is.stable _, Is.stable _, Is.stable _, Is.stable _, Is.stable _, Is.stable _, trivial⟩)
    · show OpsHold _ _ _ _ _ _ _ _ _
      refine ⟨fun a_ wx hR hD K hK => ?_, ?_⟩
      · have hG : Grew W1 wx := (Grew.drew _).trans hR
        simp [Deps, Dep, at_, Is] at hD
        go_simp
        exact hK _ _ (Grew.refl _) rfl
      refine ⟨fun a_ wx hR hD K hK => ?_, ?_⟩
      · have hG : Grew W1 wx := (Grew.drew _).trans hR
        simp [Deps, Dep, at_, Is] at hD
        go_simp
        exact hK _ _ (Grew.refl _) rfl
      refine ⟨fun a_ wx hR hD K hK => ?_, ?_⟩
      · have hG : Grew W1 wx := (Grew.drew _).trans hR
        simp [Deps, Dep, at_, Is] at hD
        go_simp
        exact hK _ _ (Grew.refl _) rfl
      refine ⟨fun a_ wx hR hD => ⟨fun hgd K hK => ?_, fun hgd => ?_⟩, ?_⟩
      · have hG : Grew W1 wx := (Grew.drew _).trans hR
        clear hgd
        simp [Deps, Dep, at_, Is] at hD
        obtain ⟨hd0, hd1⟩ := hD
        go_simp
        exact hK _ _ (Grew.refl _) rfl
      · have hG : Grew W1 wx := (Grew.drew _).trans hR
        exfalso
        simp [Deps, Dep, at_, Is] at hD
        first | (simp_all; done) | (simp_all [undef]; done)
      refine ⟨fun a_ wx hR hD => ⟨fun hgd K hK => ?_, fun hgd => ?_⟩, ?_⟩
      · have hG : Grew W1 wx := (Grew.drew _).trans hR
        clear hgd
        simp [Deps, Dep, at_, Is] at hD
        obtain ⟨e0, e1, e2, e3, e4⟩ := HBX.out wx (Upd.of_grew hG)
        go_simp
        exact hK _ _ (Grew.refl _) rfl
      · have hG : Grew W1 wx := (Grew.drew _).trans hR
        exfalso
        simp [Deps, Dep, at_, Is] at hD
        first | (simp_all; done) | (simp_all [undef]; done)
      refine ⟨fun a_ wx hR hD K hK => ?_, ?_⟩
      · have hG : Grew W1 wx := (Grew.drew _).trans hR
        simp [Deps, Dep, at_, Is] at hD
        obtain ⟨hd0, hd1⟩ := hD
        go_simp
        exact hK _ _ (Grew.refl _) rfl
      refine ⟨fun a_ wx hR hD K hK => ?_, ?_⟩
      · have hG : Grew W1 wx := (Grew.drew _).trans hR
        simp [Deps, Dep, at_, Is] at hD
        go_simp
        exact hK _ _ (Grew.refl _) rfl
      refine ⟨fun a_ wx hR hD => ⟨fun hgd K hK => ?_, fun hgd => ?_⟩, ?_⟩
      · have hG : Grew W1 wx := (Grew.drew _).trans hR
        clear hgd
        simp [Deps, Dep, at_, Is] at hD
        obtain ⟨e0, e1, e2, e3, e4⟩ := HBX.out wx (Upd.of_grew hG)
        go_simp
        exact hK _ _ (Grew.refl _) rfl
      · have hG : Grew W1 wx := (Grew.drew _).trans hR
        exfalso
        simp [Deps, Dep, at_, Is] at hD
        first | (simp_all; done) | (simp_all [undef]; done)
      refine ⟨fun a_ wx hR hD => ⟨fun hgd K hK => ?_, fun hgd => ?_⟩, ?_⟩
      · have hG : Grew W1 wx := (Grew.drew _).trans hR
        clear hgd
        simp [Deps, Dep, at_, Is] at hD
        obtain ⟨hd0, hd1⟩ := hD
        go_simp
        have hcn := HRI.out wx
        with_reducible refine hcn.mono ?_
        clear hcn
        rintro e wy ⟨v, rfl, hv, hg⟩
        exact hK _ _ hg hv
      · have hG : Grew W1 wx := (Grew.drew _).trans hR
        exfalso
        simp [Deps, Dep, at_, Is] at hD
        first | (simp_all; done) | (simp_all [undef]; done)
      refine ⟨fun a_ wx hR hD => ⟨fun hgd K hK => ?_, fun hgd => ?_⟩, ?_⟩
      · have hG : Grew W1 wx := (Grew.drew _).trans hR
        clear hgd
        simp [Deps, Dep, at_, Is] at hD
        obtain ⟨hd0, hd1⟩ := hD
        go_simp
        exact hK _ _ (Grew.refl _) rfl
      · have hG : Grew W1 wx := (Grew.drew _).trans hR
        exfalso
        simp [Deps, Dep, at_, Is] at hD
        first | (simp_all; done) | (simp_all [undef]; done)
      refine ⟨fun a_ wx hR hD K hK => ?_, ?_⟩
      · have hG : Grew W1 wx := (Grew.drew _).trans hR
        simp [Deps, Dep, at_, Is] at hD
        obtain ⟨hd0, hd1⟩ := hD
        go_simp
        exact hK _ _ (Grew.refl _) rfl
      refine ⟨fun a_ wx hR hD K hK => ?_, ?_⟩
      · have hG : Grew W1 wx := (Grew.drew _).trans hR
        simp [Deps, Dep, at_, Is] at hD
        go_simp
        exact hK _ _ (Grew.refl _) rfl
      refine ⟨fun a_ wx hR hD => ⟨fun hgd K hK => ?_, fun hgd => ?_⟩, ?_⟩
      · have hG : Grew W1 wx := (Grew.drew _).trans hR
        clear hgd
        simp [Deps, Dep, at_, Is] at hD
        obtain ⟨hd0, hd1⟩ := hD
        go_simp
        exact hK _ _ (Grew.refl _) rfl
      · have hG : Grew W1 wx := (Grew.drew _).trans hR
        exfalso
        simp [Deps, Dep, at_, Is] at hD
        first | (simp_all; done) | (simp_all [undef]; done)
      refine ⟨fun a_ wx hR hD => ⟨fun hgd K hK => ?_, fun hgd => ?_⟩, ?_⟩
      · have hG : Grew W1 wx := (Grew.drew _).trans hR
        clear hgd
        simp [Deps, Dep, at_, Is] at hD
        obtain ⟨e0, e1, e2, e3, e4⟩ := HBX.out wx (Upd.of_grew hG)
        go_simp
        exact hK _ _ (Grew.refl _) rfl
      · have hG : Grew W1 wx := (Grew.drew _).trans hR
        exfalso
        simp [Deps, Dep, at_, Is] at hD
        first | (simp_all; done) | (simp_all [undef]; done)
      refine ⟨fun a_ wx hR hD => ⟨fun hgd K hK => ?_, fun hgd => ?_⟩, ?_⟩
      · have hG : Grew W1 wx := (Grew.drew _).trans hR
        clear hgd
        simp [Deps, Dep, at_, Is] at hD
        obtain ⟨hd0, hd1⟩ := hD
        go_simp
        exact hK _ _ (Grew.refl _) rfl
      · have hG : Grew W1 wx := (Grew.drew _).trans hR
        exfalso
        simp [Deps, Dep, at_, Is] at hD
        first | (simp_all; done) | (simp_all [undef]; done)
      refine ⟨fun a_ wx hR hD => ⟨fun hgd K hK => ?_, fun hgd => ?_⟩, ?_⟩
      · have hG : Grew W1 wx := (Grew.drew _).trans hR
        clear hgd
        simp [Deps, Dep, at_, Is] at hD
        obtain ⟨hd0, hd1⟩ := hD
        go_simp
        exact hK _ _ (Grew.refl _) rfl
      · have hG : Grew W1 wx := (Grew.drew _).trans hR
        exfalso
        simp [Deps, Dep, at_, Is] at hD
        first | (simp_all; done) | (simp_all [undef]; done)
      refine ⟨fun a_ wx hR hD => ⟨fun hgd K hK => ?_, fun hgd => ?_⟩, ?_⟩
      · have hG : Grew W1 wx := (Grew.drew _).trans hR
        clear hgd
        simp [Deps, Dep, at_, Is] at hD
        obtain ⟨hd0, hd1⟩ := hD
        go_simp
        exact hK _ _ (Grew.refl _) rfl
      · have hG : Grew W1 wx := (Grew.drew _).trans hR
        exfalso
        simp [Deps, Dep, at_, Is] at hD
        first | (simp_all; done) | (simp_all [undef]; done)
      refine ⟨fun a_ wx hR hD => ⟨fun hgd K hK => ?_, fun hgd => ?_⟩, ?_⟩
      · have hG : Grew W1 wx := (Grew.drew _).trans hR
        clear hgd
        simp [Deps, Dep, at_, Is] at hD
        obtain ⟨hd0, hd1⟩ := hD
        have e_ := HC0.out wx hG
        go_simp
        exact hK _ _ (Grew.refl _) rfl
      · have hG : Grew W1 wx := (Grew.drew _).trans hR
        exfalso
        simp [Deps, Dep, at_, Is] at hD
        first | (simp_all; done) | (simp_all [undef]; done)
      refine ⟨fun a_ wx hR hD => ⟨fun hgd K hK => ?_, fun hgd => ?_⟩, ?_⟩
      · have hG : Grew W1 wx := (Grew.drew _).trans hR
        clear hgd
        simp [Deps, Dep, at_, Is] at hD
        obtain ⟨hd0, hd1, hd2⟩ := hD
        go_simp
        exact hK _ _ (Grew.refl _) rfl
      · have hG : Grew W1 wx := (Grew.drew _).trans hR
        exfalso
        simp [Deps, Dep, at_, Is] at hD
        first | (simp_all; done) | (simp_all [undef]; done)
      refine ⟨fun a_ wx hR hD K hK => ?_, ?_⟩
      · have hG : Grew W1 wx := (Grew.drew _).trans hR
        simp [Deps, Dep, at_, Is] at hD
        obtain ⟨hd0, hd1⟩ := hD
        go_simp
        exact hK _ _ (Grew.refl _) rfl
      refine ⟨fun a_ wx hR hD K hK => ?_, ?_⟩
      · have hG : Grew W1 wx := (Grew.drew _).trans hR
        simp [Deps, Dep, at_, Is] at hD
        go_simp
        exact hK _ _ (Grew.refl _) rfl
      refine ⟨fun a_ wx hR hD => ⟨fun hgd K hK => ?_, fun hgd => ?_⟩, ?_⟩
      · have hG : Grew W1 wx := (Grew.drew _).trans hR
        clear hgd
        simp [Deps, Dep, at_, Is] at hD
        obtain ⟨hd0, hd1⟩ := hD
        go_simp
        exact hK _ _ (Grew.refl _) rfl
      · have hG : Grew W1 wx := (Grew.drew _).trans hR
        exfalso
        simp [Deps, Dep, at_, Is] at hD
        first | (simp_all; done) | (simp_all [undef]; done)
      refine ⟨fun a_ wx hR hD => ⟨fun hgd K hK => ?_, fun hgd => ?_⟩, ?_⟩
      · have hG : Grew W1 wx := (Grew.drew _).trans hR
        clear hgd
        simp [Deps, Dep, at_, Is] at hD
        obtain ⟨e0, e1, e2, e3, e4⟩ := HBX.out wx (Upd.of_grew hG)
        go_simp
        exact hK _ _ (Grew.refl _) rfl
      · have hG : Grew W1 wx := (Grew.drew _).trans hR
        exfalso
        simp [Deps, Dep, at_, Is] at hD
        first | (simp_all; done) | (simp_all [undef]; done)
      refine ⟨fun a_ wx hR hD => ⟨fun hgd K hK => ?_, fun hgd => ?_⟩, ?_⟩
      · have hG : Grew W1 wx := (Grew.drew _).trans hR
        clear hgd
        simp [Deps, Dep, at_, Is] at hD
        obtain ⟨hd0, hd1⟩ := hD
        go_simp
        exact hK _ _ (Grew.refl _) rfl
      · have hG : Grew W1 wx := (Grew.drew _).trans hR
        exfalso
        simp [Deps, Dep, at_, Is] at hD
        first | (simp_all; done) | (simp_all [undef]; done)
      refine ⟨fun a_ wx hR hD => ⟨fun hgd K hK => ?_, fun hgd => ?_⟩, ?_⟩
      · have hG : Grew W1 wx := (Grew.drew _).trans hR
        clear hgd
        simp [Deps, Dep, at_, Is] at hD
        obtain ⟨hd0, hd1⟩ := hD
        go_simp
        exact hK _ _ (Grew.refl _) rfl
      · have hG : Grew W1 wx := (Grew.drew _).trans hR
        exfalso
        simp [Deps, Dep, at_, Is] at hD
        first | (simp_all; done) | (simp_all [undef]; done)
      refine ⟨fun a_ wx hR hD => ⟨fun hgd K hK => ?_, fun hgd => ?_⟩, ?_⟩
      · have hG : Grew W1 wx := (Grew.drew _).trans hR
        clear hgd
        simp [Deps, Dep, at_, Is] at hD
        obtain ⟨hd0, hd1⟩ := hD
        go_simp
        exact hK _ _ (Grew.refl _) rfl
      · have hG : Grew W1 wx := (Grew.drew _).trans hR
        exfalso
        simp [Deps, Dep, at_, Is] at hD
        first | (simp_all; done) | (simp_all [undef]; done)
      refine ⟨fun a_ wx hR hD => ⟨fun hgd K hK => ?_, fun hgd => ?_⟩, ?_⟩
      · have hG : Grew W1 wx := (Grew.drew _).trans hR
        clear hgd
        simp [Deps, Dep, at_, Is] at hD
        obtain ⟨hd0, hd1⟩ := hD
        have e_ := HC0.out wx hG
        go_simp
        exact hK _ _ (Grew.refl _) rfl
      · have hG : Grew W1 wx := (Grew.drew _).trans hR
        exfalso
        simp [Deps, Dep, at_, Is] at hD
        first | (simp_all; done) | (simp_all [undef]; done)
      refine ⟨fun a_ wx hR hD => ⟨fun hgd K hK => ?_, fun hgd => ?_⟩, ?_⟩
      · have hG : Grew W1 wx := (Grew.drew _).trans hR
        clear hgd
        simp [Deps, Dep, at_, Is] at hD
        obtain ⟨hd0, hd1⟩ := hD
        go_simp
        exact hK _ _ (Grew.refl _) rfl
      · have hG : Grew W1 wx := (Grew.drew _).trans hR
        exfalso
        simp [Deps, Dep, at_, Is] at hD
        first | (simp_all; done) | (simp_all [undef]; done)
      trivial
    · show EndHold _ _ _ _ _ _ _
      refine end_all (xs := [_, _, _, _, _, _, _, _, _, _, _, _, _, _, _, _, _, _, _, _, _, _, _, _, _, _, _, _]) ⟨rfl, rfl, rfl, rfl, rfl, rfl, rfl, rfl, rfl, rfl, rfl, rfl, rfl, rfl, rfl, rfl, rfl, rfl, rfl, rfl, rfl, rfl, rfl, rfl, rfl, rfl, rfl, rfl, trivial⟩ ?_
      rintro w2 hR1 -
      refine ⟨?_⟩
      have hG_w2 : Grew W1 w2 := (Grew.drew _).trans hR1
      clear hR1
      simp only [Act.put, List.setIfInBounds_toArray, List.set_cons_succ, List.set_cons_zero, dropN, putEach]
      have HG2 := Lib.hid hG_w2
      clear hG_w2
      go_wp2_with fail
      apply region_bigQ 5 (PutQ w2.heap.size [.bool q0, .int .i64 q1, .bool q2, .string q3, .int .i64 q4]) [.plain, .plain, .plain, .plain, .plain, .plain, .plain, .plain, .plain, .float, .plain, .big] [Is _, Is _, Is _, Is _, Is _, Is _, Is _, Is _, Is _, Is _, NewQ w2.heap.size, Is undef] [([(0, none)], none), ([(40, some 0)], none), ([(41, some 1)], none), ([(42, some 2)], none), ([(3, none)], none), ([(44, some 4)], none), ([(43, some 3), (45, some 5)], none), ([(46, some 6)], none), ([(39, some 7)], none), ([(39, some 7)], none), ([], none), ([(5, some 10), (47, some 8)], none)] [(5, 10), (39, 7), (40, 0), (41, 1), (42, 2), (43, 3), (44, 4), (45, 5), (46, 6), (47, 8), (48, 9)] rfl (by kernel_rfl) (by kernel_rfl) (by kernel_rfl) (by kernel_rfl) (by kernel_rfl) rfl (show StableB Grew _ _ _ from ⟨(fun _ => Is.stableB _), (fun _ => Is.stableB _), (fun _ => Is.stableB _), (fun _ => Is.stableB _), (fun _ => Is.stableB _), (fun _ => Is.stableB _), (fun _ => Is.stableB _), (fun _ => Is.stableB _), (fun _ => Is.stableB _), (fun _ => Is.stableB _), (fun _ => NewQ.stable rfl), (fun h_ => absurd rfl h_), trivial⟩)
      · show PhHoldQ _ _ _ _ _ _ _ _ _ _ _
        refine ⟨fun a_ wx hR hD K hK => ?_, ?_⟩
        · have hG : Grew w2 wx := (Grew.drew _).trans hR
          simp [Deps, Dep, at_, Is] at hD
          go_simp
          exact hK _ _ (Grew.refl _) rfl
        refine ⟨fun a_ wx hR hD K hK => ?_, ?_⟩
        · have hG : Grew w2 wx := (Grew.drew _).trans hR
          simp [Deps, Dep, at_, Is] at hD
          go_simp
          exact hK _ _ (Grew.refl _) rfl
        refine ⟨fun a_ wx hR hD K hK => ?_, ?_⟩
        · have hG : Grew w2 wx := (Grew.drew _).trans hR
          simp [Deps, Dep, at_, Is] at hD
          go_simp
          exact hK _ _ (Grew.refl _) rfl
        refine ⟨fun a_ wx hR hD K hK => ?_, ?_⟩
        · have hG : Grew w2 wx := (Grew.drew _).trans hR
          simp [Deps, Dep, at_, Is] at hD
          have e_ := HC1.out wx (Grew.trans HG2.out hG)
          go_simp
          exact hK _ _ (Grew.refl _) rfl
        refine ⟨fun a_ wx hR hD K hK => ?_, ?_⟩
        · have hG : Grew w2 wx := (Grew.drew _).trans hR
          simp [Deps, Dep, at_, Is] at hD
          go_simp
          exact hK _ _ (Grew.refl _) rfl
        refine ⟨fun a_ wx hR hD K hK => ?_, ?_⟩
        · have hG : Grew w2 wx := (Grew.drew _).trans hR
          simp [Deps, Dep, at_, Is] at hD
          obtain ⟨e0, e1, e2, e3, e4⟩ := HBX.out wx (Upd.of_grew (Grew.trans HG2.out hG))
          go_simp
          exact hK _ _ (Grew.refl _) rfl
        refine ⟨fun a_ wx hR hD K hK => ?_, ?_⟩
        · have hG : Grew w2 wx := (Grew.drew _).trans hR
          simp [Deps, Dep, at_, Is] at hD
          obtain ⟨hd0, hd1⟩ := hD
          have e_ := HLK.out wx (Grew.trans HG2.out hG)
          go_simp
          exact hK _ _ (Grew.refl _) rfl
        refine ⟨fun a_ wx hR hD K hK => ?_, ?_⟩
        · have hG : Grew w2 wx := (Grew.drew _).trans hR
          simp [Deps, Dep, at_, Is] at hD
          go_simp
          exact hK _ _ (Grew.refl _) rfl
        refine ⟨fun a_ wx hR hD K hK => ?_, ?_⟩
        · have hG : Grew w2 wx := (Grew.drew _).trans hR
          simp [Deps, Dep, at_, Is] at hD
          go_simp
          exact hK _ _ (Grew.refl _) rfl
        refine ⟨fun a_ wx hD K hK => ?_, ?_⟩
        · have hF_ := True.intro
          simp [Deps, Dep, at_, Is] at hD
          go_simp
          exact hK _ _ rfl rfl
        refine ⟨fun a_ wx hR hD K hK => ?_, ?_⟩
        · have hG : Grew w2 wx := (Grew.drew _).trans hR
          go_simp
          exact hK _ _ (Grew.alloc _ _) ⟨_, _, rfl, hG.size, rfl, Blk.new _ _ [.bool false, .int .i64 0, .bool false, .string ⟨#[]⟩, .int .i64 0]⟩
        refine ⟨⟨rfl, fun a_ wx hR hD K hK => ?_⟩, ?_⟩
        · have hG : Grew w2 wx := (Grew.drew _).trans hR
          simp [Deps, Dep, at_, Is] at hD
          obtain ⟨hd0, hd1⟩ := hD
          obtain ⟨g1, cs, h1, h2, h3, h4⟩ := hd0
          exact wp_store_row 30 (.tmp 5) (.tmp 47) rfl g1 #[.bool q0, .int .i64 q1, .bool q2, .string q3, .int .i64 q4] (eval_tmp h1) (eval_tmp hd1) 30 cs.toArray h4 (by kernel_rfl) (by simpa using h3) (by simp [Value.oneCell']) (hK _ _ ⟨g1, cs, h1, h2, h3, h4, rfl⟩ rfl)
        trivial
      · show EndHold _ _ _ _ _ _ _
        intro v5
        refine end_all (xs := [_, _, _, _, _, _, _, _, _, _]) ⟨rfl, rfl, rfl, rfl, rfl, rfl, rfl, rfl, rfl, rfl, trivial⟩ ?_
        rintro w3 hR1 ⟨-, hN10⟩
        refine ⟨?_⟩
        rintro ⟨wm_w3, hRm, hP_w3⟩
        have hG_w3 : Grew w2 wm_w3 := (Grew.drew _).trans hRm
        clear hRm
        simp only [Act.put, List.setIfInBounds_toArray, List.set_cons_succ, List.set_cons_zero, dropN, putEach]
        obtain ⟨g7, cs7, hv7, hN7, h37, hbl7, rfl⟩ := hP_w3
        simp only [Act.put, List.setIfInBounds_toArray, List.set_cons_succ, List.set_cons_zero, putEach, List.getElem?_toArray, List.getElem?_cons_succ, List.getElem?_cons_zero, Option.getD_some] at hv7
        have hv7' : v5 = .pointer (some ⟨g7, 0, none⟩) := hv7
        clear hv7 hN10
        subst hv7'
        have hg3 := Grew.setRow hG_w3 hN7 [Value.bool q0, .int .i64 q1, .bool q2, .string q3, .int .i64 q4].toArray
        obtain ⟨W3, hW3⟩ : ∃ W3, W3 = wm_w3.setRow g7 [Value.bool q0, .int .i64 q1, .bool q2, .string q3, .int .i64 q4].toArray := ⟨_, rfl⟩
        rw [← hW3] at hg3 ⊢
        have HG3 := Lib.hid (Grew.trans HG2.out hg3)
        clear hW3 hg3 hbl7 hN7 h37 hG_w3
        cases bb with
        | true =>
          have hrs := Lib.hid (show RS = s from by rw [HRS.out]; unfold takeR; rw [if_pos (.inr HBB.out.symm)])
          go_wp2_with fail
          go_ret
          exact ⟨false, vw, bp, vb, rfl, by rw [hrs.out]; exact HH.out W3 HG3.out, Upd.of_grew (Grew.trans HG1.out HG3.out), fun k hk => .inl (.inr (.inr (.inl hk))), fun k hk => .inl (.inr (.inr (.inr hk)))⟩
        | false =>
          go_wp2_with fail
          apply region_grew [Is _, Is _, Is _, Is _, Is _, Is _, Is _] [([(0, none)], none), ([(50, some 0)], none), ([(51, some 1)], none), ([(52, some 2)], none), ([(3, none)], none), ([(54, some 4)], none), ([(3, none)], none)] [(50, 0), (51, 1), (52, 2), (53, 3), (54, 4), (55, 5), (56, 6)] rfl (by kernel_rfl) (by kernel_rfl) (show Stable Grew _ from ⟨Is.stable _, Is.stable _, Is.stable _, Is.stable _, Is.stable _, Is.stable _, Is.stable _, trivial⟩)
          · show OpsHold _ _ _ _ _ _ _ _ _
            refine ⟨fun a_ wx hR hD K hK => ?_, ?_⟩
            · have hG : Grew W3 wx := (Grew.drew _).trans hR
              simp [Deps, Dep, at_, Is] at hD
              go_simp
              exact hK _ _ (Grew.refl _) rfl
            refine ⟨fun a_ wx hR hD K hK => ?_, ?_⟩
            · have hG : Grew W3 wx := (Grew.drew _).trans hR
              simp [Deps, Dep, at_, Is] at hD
              go_simp
              exact hK _ _ (Grew.refl _) rfl
            refine ⟨fun a_ wx hR hD K hK => ?_, ?_⟩
            · have hG : Grew W3 wx := (Grew.drew _).trans hR
              simp [Deps, Dep, at_, Is] at hD
              go_simp
              exact hK _ _ (Grew.refl _) rfl
            refine ⟨fun a_ wx hR hD K hK => ?_, ?_⟩
            · have hG : Grew W3 wx := (Grew.drew _).trans hR
              simp [Deps, Dep, at_, Is] at hD
              have e_ := HC1.out wx (Grew.trans HG3.out hG)
              go_simp
              exact hK _ _ (Grew.refl _) rfl
            refine ⟨fun a_ wx hR hD K hK => ?_, ?_⟩
            · have hG : Grew W3 wx := (Grew.drew _).trans hR
              simp [Deps, Dep, at_, Is] at hD
              go_simp
              exact hK _ _ (Grew.refl _) rfl
            refine ⟨fun a_ wx hR hD K hK => ?_, ?_⟩
            · have hG : Grew W3 wx := (Grew.drew _).trans hR
              simp [Deps, Dep, at_, Is] at hD
              obtain ⟨e0, e1, e2, e3, e4⟩ := HBX.out wx (Upd.of_grew (Grew.trans HG3.out hG))
              go_simp
              exact hK _ _ (Grew.refl _) rfl
            refine ⟨fun a_ wx hR hD K hK => ?_, ?_⟩
            · have hG : Grew W3 wx := (Grew.drew _).trans hR
              simp [Deps, Dep, at_, Is] at hD
              obtain ⟨e0, e1, e2, e3, e4⟩ := HBX.out wx (Upd.of_grew (Grew.trans HG3.out hG))
              go_simp
              exact hK _ _ (Grew.refl _) rfl
            trivial
          · show EndHold _ _ _ _ _ _ _
            refine end_all (xs := [_, _, _, _, _, _, _]) ⟨rfl, rfl, rfl, rfl, rfl, rfl, rfl, trivial⟩ ?_
            rintro w4 hR1 -
            refine ⟨?_⟩
            have hG_w4 : Grew W3 w4 := (Grew.drew _).trans hR1
            clear hR1
            simp only [Act.put, List.setIfInBounds_toArray, List.set_cons_succ, List.set_cons_zero, dropN, putEach]
            have hg4 := Grew.trans HG3.out hG_w4
            have h4 := HH.out w4 hg4
            obtain ⟨w5, hrun, hmap, hu5⟩ := h4.map.put N ⟨false, N, last, data, bits⟩ HWF.out
            simp only [pkV] at hrun
            have hne1 := h4.map.ne_blk h4.cells
            have hne2 := h4.map.ne_row h4.row
            have hne3 := h4.map.ne_row (rowO_of_own h4.own)
            have HS0 := Lib.hid (show RcvT B g m vw bp vb ⟨s.gap, putF s.F N ⟨false, N, last, data, bits⟩, s.whole, s.buf, s.n⟩ w5 from
              ⟨h4.cells.upd hu5 (fun e => hne1 e.symm), hmap, h4.row.upd hu5 (fun j hj e => hne2 (by rw [hj, e])), hu5.own h4.own (fun j hj e => hne3 (by rw [hj, e])), h4.addr, h4.nil, h4.hg, h4.hm⟩)
            have HU5 := Lib.hid (show Upd (rcvS g m vw vb) w w5 from (Upd.of_grew (Grew.trans HG1.out hg4)).trans (hu5.mono fun j _ e => .inr (.inl e)))
            clear hg4 h4 hmap hu5 hne1 hne2 hne3 hG_w4
            have hnone : s.F N = none := by
              have := HBB.out
              cases hf : s.F N with
              | none => rfl
              | some x => rw [hf] at this; cases this
            have HRR := Lib.hid (show drainR 17 ⟨s.gap, putF s.F N ⟨false, N, last, data, bits⟩, s.whole, s.buf, s.n⟩ = RS from by
              rw [HRS.out]; unfold takeR
              rw [if_neg (by
                rintro (h | h)
                · have h : N < s.gap := h
                  rw [← HGAP.out] at h; omega
                · rw [hnone] at h; cases h)])
            have HOK0 := Lib.hid (show OkR K ⟨s.gap, putF s.F N ⟨false, N, last, data, bits⟩, s.whole, s.buf, s.n⟩ from by
              have h := HOK.out
              refine ⟨h.g0, h.g1, h.k1, h.n0, h.n1, h.buf, h.whole, fun k x hx => ?_, fun k x hx => ?_⟩ <;> replace hx : putF s.F N ⟨false, N, last, data, bits⟩ k = some x := hx
              · by_cases e : k = N
                · have := HGAP.out; simp only; omega
                · rw [putF_ne _ _ e] at hx; exact h.keys _ _ hx
              · by_cases e : k = N
                · rw [e, putF_at] at hx
                  injection hx with hx
                  subst hx
                  exact HSM.out
                · rw [putF_ne _ _ e] at hx; exact h.small _ _ hx)
            clear hnone hsm hN hgm hg0 w16 d1 d2
            go_wp2_with fail
            clear hrun
            go_loopw [4] (fun v4 wr => ∃ (j : Nat) (st : RSt) (vw' bp' vb' : Value), drainR j st = RS ∧ K ≤ st.gap + j ∧ OkR K st ∧ RcvT B g m vw' bp' vb' st wr ∧ Upd (rcvS g m vw vb) w wr ∧ Late g m vw vb w.heap.size vw' ∧ Late g m vw vb w.heap.size vb') (fun _ wr => (K - intOf ((wr.cell? ⟨g, 0, none⟩).getD undef)).toNat)
            case atStart => exact ⟨17, _, _, _, _, HRR.out, by have := HGAP.out; simp only; omega, HOK0.out, HS0.out, HU5.out, fun k hk => .inl (.inr (.inr (.inl hk))), fun k hk => .inl (.inr (.inr (.inr hk)))⟩
            case round =>
              obtain ⟨j, st, vw1, bp1, vb1, hdr, hKj, hok1, hrc, hur, hl1, hl2⟩ := hrel
              obtain ⟨G, hG0⟩ : ∃ G, G = st.gap := ⟨_, rfl⟩
              have HGG := Lib.hid hG0
              have hwfG : (Lit.int .i64 G).wf = true := by have h1 := hok1.g0; have h2 := hok1.g1; simp [Lit.wf, IntKind.min, IntKind.max, IntKind.bits, IntKind.signed]; omega
              have HR1 := Lib.hid (fun wx (hG : Grew wr wx) => hrc.grew hG)
              have HE0 := Lib.hid (fun wx (hG : Grew wr wx) => show wx.cell? ⟨g, 0, none⟩ = some (.int .i64 G) from by rw [((hrc.grew hG).cells).at_, hG0]; rfl)
              have HE1 := Lib.hid (fun wx (hG : Grew wr wx) => show wx.cell? ⟨g, 1, none⟩ = some (.map (some m)) from by rw [((hrc.grew hG).cells).at_]; rfl)
              have hlk := fun wx (hG : Grew wr wx) => ((hrc.grew hG).map).look G hwfG
              obtain ⟨q, hq⟩ : ∃ q, q = (st.F G).getD zPk := ⟨_, rfl⟩
              obtain ⟨bb, hbb⟩ : ∃ bb, bb = (st.F G).isSome := ⟨_, rfl⟩
              rw [← hq, ← hbb] at hlk
              have HQ := Lib.hid hq
              have HBB1 := Lib.hid hbb
              have HWG := Lib.hid hwfG
              clear HBB HLK
              obtain ⟨x0, x1, x2, x3, x4⟩ := q
              simp only [pkV] at hlk
              have HLK := Lib.hid hlk
              have HDR := Lib.hid hdr
              have HKJ := Lib.hid hKj
              have HOK1 := Lib.hid hok1
              have HUR := Lib.hid hur
              have HL1 := Lib.hid hl1
              have HL2 := Lib.hid hl2
              clear hq hbb hlk hwfG hdr hKj hok1 hrc hur hl1 hl2 hG0
              go_wp2_with fail
              apply region_bigQ 7 (PutQ wr.heap.size [.bool x0, .int .i64 x1, .bool x2, .string x3, .int .i64 x4]) [.plain, .plain, .plain, .plain, .plain, .plain, .plain, .plain, .plain, .plain, .plain, .float, .plain, .big] [Is _, Is _, Is _, Is _, Is _, Is _, Is _, Is _, Is _, Is _, Is _, Is _, NewQ wr.heap.size, Is undef] [([(0, none)], none), ([(58, some 0)], none), ([(59, some 1)], none), ([(60, some 2)], none), ([(0, none)], none), ([(62, some 4)], none), ([(63, some 5)], none), ([(64, some 6)], none), ([(61, some 3), (65, some 7)], none), ([(66, some 8)], none), ([(57, some 9)], none), ([(57, some 9)], none), ([], none), ([(7, some 12), (67, some 10)], none)] [(7, 12), (57, 9), (58, 0), (59, 1), (60, 2), (61, 3), (62, 4), (63, 5), (64, 6), (65, 7), (66, 8), (67, 10), (68, 11)] rfl (by kernel_rfl) (by kernel_rfl) (by kernel_rfl) (by kernel_rfl) (by kernel_rfl) rfl (show StableB Grew _ _ _ from ⟨(fun _ => Is.stableB _), (fun _ => Is.stableB _), (fun _ => Is.stableB _), (fun _ => Is.stableB _), (fun _ => Is.stableB _), (fun _ => Is.stableB _), (fun _ => Is.stableB _), (fun _ => Is.stableB _), (fun _ => Is.stableB _), (fun _ => Is.stableB _), (fun _ => Is.stableB _), (fun _ => Is.stableB _), (fun _ => NewQ.stable rfl), (fun h_ => absurd rfl h_), trivial⟩)
              · show PhHoldQ _ _ _ _ _ _ _ _ _ _ _
                refine ⟨fun a_ wx hR hD K hK => ?_, ?_⟩
                · have hG : Grew wr wx := (Grew.drew _).trans hR
                  simp [Deps, Dep, at_, Is] at hD
                  go_simp
                  exact hK _ _ (Grew.refl _) rfl
                refine ⟨fun a_ wx hR hD K hK => ?_, ?_⟩
                · have hG : Grew wr wx := (Grew.drew _).trans hR
                  simp [Deps, Dep, at_, Is] at hD
                  go_simp
                  exact hK _ _ (Grew.refl _) rfl
                refine ⟨fun a_ wx hR hD K hK => ?_, ?_⟩
                · have hG : Grew wr wx := (Grew.drew _).trans hR
                  simp [Deps, Dep, at_, Is] at hD
                  go_simp
                  exact hK _ _ (Grew.refl _) rfl
                refine ⟨fun a_ wx hR hD K hK => ?_, ?_⟩
                · have hG : Grew wr wx := (Grew.drew _).trans hR
                  simp [Deps, Dep, at_, Is] at hD
                  have e_ := HE1.out wx hG
                  go_simp
                  exact hK _ _ (Grew.refl _) rfl
                refine ⟨fun a_ wx hR hD K hK => ?_, ?_⟩
                · have hG : Grew wr wx := (Grew.drew _).trans hR
                  simp [Deps, Dep, at_, Is] at hD
                  go_simp
                  exact hK _ _ (Grew.refl _) rfl
                refine ⟨fun a_ wx hR hD K hK => ?_, ?_⟩
                · have hG : Grew wr wx := (Grew.drew _).trans hR
                  simp [Deps, Dep, at_, Is] at hD
                  go_simp
                  exact hK _ _ (Grew.refl _) rfl
                refine ⟨fun a_ wx hR hD K hK => ?_, ?_⟩
                · have hG : Grew wr wx := (Grew.drew _).trans hR
                  simp [Deps, Dep, at_, Is] at hD
                  go_simp
                  exact hK _ _ (Grew.refl _) rfl
                refine ⟨fun a_ wx hR hD K hK => ?_, ?_⟩
                · have hG : Grew wr wx := (Grew.drew _).trans hR
                  simp [Deps, Dep, at_, Is] at hD
                  have e_ := HE0.out wx hG
                  go_simp
                  exact hK _ _ (Grew.refl _) rfl
                refine ⟨fun a_ wx hR hD K hK => ?_, ?_⟩
                · have hG : Grew wr wx := (Grew.drew _).trans hR
                  simp [Deps, Dep, at_, Is] at hD
                  obtain ⟨hd0, hd1⟩ := hD
                  have e_ := HLK.out wx hG
                  go_simp
                  exact hK _ _ (Grew.refl _) rfl
                refine ⟨fun a_ wx hR hD K hK => ?_, ?_⟩
                · have hG : Grew wr wx := (Grew.drew _).trans hR
                  simp [Deps, Dep, at_, Is] at hD
                  go_simp
                  exact hK _ _ (Grew.refl _) rfl
                refine ⟨fun a_ wx hR hD K hK => ?_, ?_⟩
                · have hG : Grew wr wx := (Grew.drew _).trans hR
                  simp [Deps, Dep, at_, Is] at hD
                  go_simp
                  exact hK _ _ (Grew.refl _) rfl
                refine ⟨fun a_ wx hD K hK => ?_, ?_⟩
                · have hF_ := True.intro
                  simp [Deps, Dep, at_, Is] at hD
                  go_simp
                  exact hK _ _ rfl rfl
                refine ⟨fun a_ wx hR hD K hK => ?_, ?_⟩
                · have hG : Grew wr wx := (Grew.drew _).trans hR
                  go_simp
                  exact hK _ _ (Grew.alloc _ _) ⟨_, _, rfl, hG.size, rfl, Blk.new _ _ [.bool false, .int .i64 0, .bool false, .string ⟨#[]⟩, .int .i64 0]⟩
                refine ⟨⟨rfl, fun a_ wx hR hD K hK => ?_⟩, ?_⟩
                · have hG : Grew wr wx := (Grew.drew _).trans hR
                  simp [Deps, Dep, at_, Is] at hD
                  obtain ⟨hd0, hd1⟩ := hD
                  obtain ⟨g1, cs, h1, h2, h3, h4⟩ := hd0
                  exact wp_store_row 30 (.tmp 7) (.tmp 67) rfl g1 #[.bool x0, .int .i64 x1, .bool x2, .string x3, .int .i64 x4] (eval_tmp h1) (eval_tmp hd1) 30 cs.toArray h4 (by kernel_rfl) (by simpa using h3) (by simp [Value.oneCell']) (hK _ _ ⟨g1, cs, h1, h2, h3, h4, rfl⟩ rfl)
                trivial
              · show EndHold _ _ _ _ _ _ _
                intro v7
                refine end_all (xs := [_, _, _, _, _, _, _, _, _, _, _, _]) ⟨rfl, rfl, rfl, rfl, rfl, rfl, rfl, rfl, rfl, rfl, rfl, rfl, trivial⟩ ?_
                rintro w6 hR1 ⟨-, hN12⟩
                refine ⟨?_⟩
                rintro ⟨wm_w6, hRm, hP_w6⟩
                have hG_w6 : Grew wr wm_w6 := (Grew.drew _).trans hRm
                clear hRm
                simp only [Act.put, List.setIfInBounds_toArray, List.set_cons_succ, List.set_cons_zero, dropN, putEach]
                obtain ⟨g8, cs8, hv8, hN8, h38, hbl8, rfl⟩ := hP_w6
                simp only [Act.put, List.setIfInBounds_toArray, List.set_cons_succ, List.set_cons_zero, putEach, List.getElem?_toArray, List.getElem?_cons_succ, List.getElem?_cons_zero, Option.getD_some] at hv8
                have hv8' : v7 = .pointer (some ⟨g8, 0, none⟩) := hv8
                clear hv8 hN12
                subst hv8'
                have hg6 := Grew.setRow hG_w6 hN8 [Value.bool x0, .int .i64 x1, .bool x2, .string x3, .int .i64 x4].toArray
                have hb8 := hbl8.setRow [Value.bool x0, .int .i64 x1, .bool x2, .string x3, .int .i64 x4]
                obtain ⟨W6, hW6⟩ : ∃ W6, W6 = wm_w6.setRow g8 [Value.bool x0, .int .i64 x1, .bool x2, .string x3, .int .i64 x4].toArray := ⟨_, rfl⟩
                rw [← hW6] at hg6 hb8 ⊢
                have HG6 := Lib.hid hg6
                have HB8 := Lib.hid hb8
                have HN8 := Lib.hid hN8
                clear hW6 hg6 hb8 hbl8 h38 hG_w6 hN8
                cases bb with
                | false =>
                  have hnn : st.F st.gap = none := by
                    have h1 := HBB1.out
                    rw [HGG.out] at h1
                    cases hf : st.F st.gap with
                    | none => rfl
                    | some x => rw [hf] at h1; cases h1
                  have hfin := Lib.hid (show RS = st from by rw [← HDR.out, drainR_stop hnn])
                  clear hnn
                  go_wp2_with fail
                  go_ret
                  exact ⟨true, vw1, bp1, vb1, rfl, by rw [hfin.out]; exact HR1.out W6 HG6.out, HUR.out.trans (Upd.of_grew HG6.out), HL1.out, HL2.out⟩
                | true =>
                  have hx : st.F st.gap = some ⟨x0, x1, x2, x3, x4⟩ := by
                    have h1 := HBB1.out
                    have h2 := HQ.out
                    rw [HGG.out] at h1 h2
                    cases hf : st.F st.gap with
                    | none => rw [hf] at h1; cases h1
                    | some y => rw [hf] at h2; rw [h2]; rfl
                  have HX := Lib.hid hx
                  clear hx
                  go_wp2_with fail
                  apply region_grew [Is _, Is _, Is _, Is _, Is _, Is _, Is _, Is _] [([(0, none)], none), ([(71, some 0)], none), ([(72, some 1)], none), ([(73, some 2)], none), ([(0, none)], none), ([(75, some 4)], none), ([(76, some 5)], none), ([(77, some 6)], none)] [(71, 0), (72, 1), (73, 2), (74, 3), (75, 4), (76, 5), (77, 6), (78, 7)] rfl (by kernel_rfl) (by kernel_rfl) (show Stable Grew _ from ⟨Is.stable _, Is.stable _, Is.stable _, Is.stable _, Is.stable _, Is.stable _, Is.stable _, Is.stable _, trivial⟩)
                  · show OpsHold _ _ _ _ _ _ _ _ _
                    refine ⟨fun a_ wx hR hD K hK => ?_, ?_⟩
                    · have hG : Grew W6 wx := (Grew.drew _).trans hR
                      simp [Deps, Dep, at_, Is] at hD
                      go_simp
                      exact hK _ _ (Grew.refl _) rfl
                    refine ⟨fun a_ wx hR hD K hK => ?_, ?_⟩
                    · have hG : Grew W6 wx := (Grew.drew _).trans hR
                      simp [Deps, Dep, at_, Is] at hD
                      go_simp
                      exact hK _ _ (Grew.refl _) rfl
                    refine ⟨fun a_ wx hR hD K hK => ?_, ?_⟩
                    · have hG : Grew W6 wx := (Grew.drew _).trans hR
                      simp [Deps, Dep, at_, Is] at hD
                      go_simp
                      exact hK _ _ (Grew.refl _) rfl
                    refine ⟨fun a_ wx hR hD K hK => ?_, ?_⟩
                    · have hG : Grew W6 wx := (Grew.drew _).trans hR
                      simp [Deps, Dep, at_, Is] at hD
                      have e_ := HE1.out wx (Grew.trans HG6.out hG)
                      go_simp
                      exact hK _ _ (Grew.refl _) rfl
                    refine ⟨fun a_ wx hR hD K hK => ?_, ?_⟩
                    · have hG : Grew W6 wx := (Grew.drew _).trans hR
                      simp [Deps, Dep, at_, Is] at hD
                      go_simp
                      exact hK _ _ (Grew.refl _) rfl
                    refine ⟨fun a_ wx hR hD K hK => ?_, ?_⟩
                    · have hG : Grew W6 wx := (Grew.drew _).trans hR
                      simp [Deps, Dep, at_, Is] at hD
                      go_simp
                      exact hK _ _ (Grew.refl _) rfl
                    refine ⟨fun a_ wx hR hD K hK => ?_, ?_⟩
                    · have hG : Grew W6 wx := (Grew.drew _).trans hR
                      simp [Deps, Dep, at_, Is] at hD
                      go_simp
                      exact hK _ _ (Grew.refl _) rfl
                    refine ⟨fun a_ wx hR hD K hK => ?_, ?_⟩
                    · have hG : Grew W6 wx := (Grew.drew _).trans hR
                      simp [Deps, Dep, at_, Is] at hD
                      have e_ := HE0.out wx (Grew.trans HG6.out hG)
                      go_simp
                      exact hK _ _ (Grew.refl _) rfl
                    trivial
                  · show EndHold _ _ _ _ _ _ _
                    refine end_all (xs := [_, _, _, _, _, _, _, _]) ⟨rfl, rfl, rfl, rfl, rfl, rfl, rfl, rfl, trivial⟩ ?_
                    rintro w7 hR1 -
                    refine ⟨?_⟩
                    have hG_w7 : Grew W6 w7 := (Grew.drew _).trans hR1
                    clear hR1
                    simp only [Act.put, List.setIfInBounds_toArray, List.set_cons_succ, List.set_cons_zero, dropN, putEach]
                    have hg7 := Grew.trans HG6.out hG_w7
                    have h7 := HR1.out w7 hg7
                    have hlt8 := (HR1.out wr (Grew.refl _)).lt
                    have hnot8 : ¬ rcvS g m vw1 vb1 g8 := fun e => by have h1 := hlt8 g8 e; have h2 := HN8.out; omega
                    obtain ⟨w8, hrun8, hmap8, hu8⟩ := h7.map.del (ty := 0) G HWG.out
                    have h8 := h7.mapped hmap8 hu8
                    have hk := HOK1.out.keys _ _ HX.out
                    have hG1 := HOK1.out.g1
                    have hG0 := HOK1.out.g0
                    have hn0 := HOK1.out.n0
                    have hn1 := HOK1.out.n1
                    have hbz := HOK1.out.buf
                    have hwz := HOK1.out.whole
                    have hsx := HOK1.out.small _ _ HX.out
                    rw [← HGG.out] at hk hG1 hG0 hwz
                    have q0 := h8.cells.at_ 0
                    have f0 := h8.cells.fz 0
                    simp only [List.getElem?_cons_zero] at q0
                    rw [← HGG.out] at q0
                    have h9 := h8.gap_ (G + 1)
                    have hu9 : Upd (rcvS g m vw1 vb1) W6 (w8.setCell ⟨g, 0, none⟩ (.int .i64 (G + 1))) := (Upd.of_grew hG_w7).trans ((hu8.mono fun j _ e => .inr (.inl e)).trans ((updG w8 g 0 _).mono fun j _ e => .inl e))
                    obtain ⟨W9, hW9⟩ : ∃ W9, W9 = w8.setCell ⟨g, 0, none⟩ (.int .i64 (G + 1)) := ⟨_, rfl⟩
                    rw [← hW9] at h9 hu9
                    have HB9 := Lib.hid (HB8.out.upd hu9 hnot8)
                    have HH9 := Lib.hid h9
                    have HU9 := Lib.hid hu9
                    have HW9 := Lib.hid hW9
                    have HNOT := Lib.hid hnot8
                    have HF := Lib.hid (And.intro hk (And.intro hG1 (And.intro hG0 (And.intro hn0 (And.intro hn1 (And.intro hbz (And.intro hwz hsx)))))))
                    have hw1 : IntKind.i64.wrap (G + 1) = G + 1 := IntWalk.i64_in _ (by omega)
                    clear hg7 h7 hlt8 hnot8 hmap8 hu8 h8 hk hG1 hG0 hn0 hn1 hbz hwz hsx h9 hu9 hW9 hG_w7
                    go_wp2_with fail
                    rw [← HW9.out]
                    clear hrun8 q0 f0 hw1
                    apply region_grew [Is _, Is _, Is _, Is _, Is _] [([(0, none)], none), ([(86, some 0)], none), ([(87, some 1)], none), ([(7, none)], none), ([(89, some 3)], none)] [(86, 0), (87, 1), (88, 2), (89, 3), (90, 4)] rfl (by kernel_rfl) (by kernel_rfl) (show Stable Grew _ from ⟨Is.stable _, Is.stable _, Is.stable _, Is.stable _, Is.stable _, trivial⟩)
                    · show OpsHold _ _ _ _ _ _ _ _ _
                      refine ⟨fun a_ wx hR hD K hK => ?_, ?_⟩
                      · have hG : Grew W9 wx := (Grew.drew _).trans hR
                        simp [Deps, Dep, at_, Is] at hD
                        go_simp
                        exact hK _ _ (Grew.refl _) rfl
                      refine ⟨fun a_ wx hR hD K hK => ?_, ?_⟩
                      · have hG : Grew W9 wx := (Grew.drew _).trans hR
                        simp [Deps, Dep, at_, Is] at hD
                        go_simp
                        exact hK _ _ (Grew.refl _) rfl
                      refine ⟨fun a_ wx hR hD K hK => ?_, ?_⟩
                      · have hG : Grew W9 wx := (Grew.drew _).trans hR
                        simp [Deps, Dep, at_, Is] at hD
                        go_simp
                        exact hK _ _ (Grew.refl _) rfl
                      refine ⟨fun a_ wx hR hD K hK => ?_, ?_⟩
                      · have hG : Grew W9 wx := (Grew.drew _).trans hR
                        simp [Deps, Dep, at_, Is] at hD
                        go_simp
                        exact hK _ _ (Grew.refl _) rfl
                      refine ⟨fun a_ wx hR hD K hK => ?_, ?_⟩
                      · have hG : Grew W9 wx := (Grew.drew _).trans hR
                        simp [Deps, Dep, at_, Is] at hD
                        have e_ : wx.cell? ⟨g8, 3, none⟩ = some (.string x3) := by rw [(HB9.out.grew hG).at_]; rfl
                        go_simp
                        exact hK _ _ (Grew.refl _) rfl
                      trivial
                    · show EndHold _ _ _ _ _ _ _
                      refine end_all (xs := [_, _, _, _, _]) ⟨rfl, rfl, rfl, rfl, rfl, trivial⟩ ?_
                      rintro w10 hR1 -
                      refine ⟨?_⟩
                      have hG_w10 : Grew W9 w10 := (Grew.drew _).trans hR1
                      clear hR1
                      simp only [Act.put, List.setIfInBounds_toArray, List.set_cons_succ, List.set_cons_zero, dropN, putEach]
                      have HG10 := Lib.hid hG_w10
                      have h10 := HH9.out.grew hG_w10
                      have HH10 := Lib.hid h10
                      have HCW := Lib.hid (wstr_c w10 B g _ _ _ _ _ _ (bytesOf st.buf) x3 h10.cells h10.addr h10.own (by rw [bytesOf_length]; have := HF.out; omega) (Nat.le_trans hB (Nat.le_trans HUR.out.size (Nat.le_trans HG6.out.size (Nat.le_trans HU9.out.size hG_w10.size)))))
                      clear hG_w10 h10
                      go_wp2_with fail
                      refine HCW.out.mono ?_
                      rintro e w11 hd11
                      obtain ⟨rfl, vb2, h11, hu11, hat11⟩ := HH10.out.wrote hd11
                      clear hd11 HCW
                      obtain ⟨n1, hn1⟩ : ∃ n1, n1 = st.n + 1 := ⟨_, rfl⟩
                      have h12 := h11.num_ n1
                      have q5 := h11.cells.at_ 5
                      have f5 := h11.cells.fz 5
                      simp only [List.getElem?_cons_succ, List.getElem?_cons_zero] at q5
                      have hw2 : IntKind.i64.wrap (st.n + 1) = n1 := by rw [hn1]; exact IntWalk.i64_in _ (by have := HF.out; omega)
                      have hu12 := (HU9.out.trans (Upd.of_grew HG10.out)).trans (hu11.trans ((updG w11 g 5 (.int .i64 n1)).mono fun j _ e => .inl e))
                      obtain ⟨W12, hW12⟩ : ∃ W12, W12 = w11.setCell ⟨g, 5, none⟩ (.int .i64 n1) := ⟨_, rfl⟩
                      rw [← hW12] at h12 hu12
                      have hb12 := (HB9.out.upd ((Upd.of_grew HG10.out).trans (hu11.trans ((updG w11 g 5 (.int .i64 n1)).mono fun j _ e => .inl e))) HNOT.out)
                      rw [← hW12] at hb12
                      have e2 := hb12.at_ 2
                      have e5 := h12.cells.at_ 5
                      simp only [List.getElem?_cons_succ, List.getElem?_cons_zero] at e2 e5
                      have e25 := And.intro e2 e5
                      rw [hW12] at e25
                      obtain ⟨e2s, e5s⟩ := e25
                      have e2w := (HB9.out.upd ((Upd.of_grew HG10.out).trans hu11) HNOT.out).at_ 2
                      simp only [List.getElem?_cons_succ, List.getElem?_cons_zero] at e2w
                      have hg8g : ¬ g8 = g := fun e => HNOT.out (.inl e)
                      have hgg8 : ¬ g = g8 := fun e => hg8g e.symm
                      have hl2 : Late g m vw vb w.heap.size vb2 := by
                        intro k hk
                        rcases hat11 with h | ⟨k2, h, h2⟩
                        · rw [h] at hk; exact HL2.out k hk
                        · rw [h] at hk
                          injection hk with hk
                          exact .inr (by have := HUR.out.size; have := HG6.out.size; have := HU9.out.size; have := HG10.out.size; omega)
                      have hj : ∃ j', j = j' + 1 := ⟨j - 1, by have h1 := HKJ.out; have h2 := HF.out; rw [← HGG.out] at h1; omega⟩
                      obtain ⟨j', rfl⟩ := hj
                      have hdr2 : drainR j' (stepR st ⟨x0, x1, x2, x3, x4⟩) = RS := by rw [← HDR.out, drainR_go HX.out]
                      have hok2 := HOK1.out.step HX.out hK1
                      have hgap2 : (stepR st ⟨x0, x1, x2, x3, x4⟩).gap = G + 1 := by unfold stepR; split <;> simp only [HGG.out]
                      have hkj2 : K ≤ (stepR st ⟨x0, x1, x2, x3, x4⟩).gap + (j' : Int) := by have h1 := HKJ.out; rw [← HGG.out] at h1; rw [hgap2]; omega
                      have hur12 : Upd (rcvS g m vw vb) w W12 := by
                        have h1 := (Upd.of_grew (S := rcvS g m vw1 vb1) HG6.out).trans hu12
                        refine HUR.out.then_ h1 fun i hi hs => ?_
                        rcases hs with e | e | e | e
                        · exact .inl e
                        · exact .inr (.inl e)
                        · rcases HL1.out i e with h | h
                          · exact h
                          · omega
                        · rcases HL2.out i e with h | h
                          · exact h
                          · omega
                      have HH12 := Lib.hid h12
                      have HU12 := Lib.hid hur12
                      have HDR2 := Lib.hid hdr2
                      have HOK2 := Lib.hid hok2
                      have HKJ2 := Lib.hid hkj2
                      have HLV := Lib.hid hl2
                      have HN1 := Lib.hid hn1
                      have HW12 := Lib.hid hW12
                      have HGAP2 := Lib.hid hgap2
                      clear h11 h12 hu12 hb12 hu11 hat11 hur12 hl2 hdr2 hok2 hkj2 hgap2 hW12 hn1 HDR HKJ
                      by_cases hlast : x2 = true ∨ n1 = 21
                      · cases x2 with
                        | true =>
                          have hstep := Lib.hid (show stepR st ⟨x0, x1, true, x3, x4⟩ = ⟨st.gap + 1, delF st.F st.gap, st.whole ++ [st.buf ++ x3], ⟨#[]⟩, 0⟩ from by
                            unfold stepR
                            rw [if_pos]
                            exact .inl rfl)
                          have HV2 := Lib.hid (fun wx (hG : Frz (fun j => vb2.ownBlock = some j) W12 wx) => show wx.cell? ⟨g, 2, none⟩ = some vw1 from hG.cell _ _ (by rw [HH12.out.cells.at_]; rfl))
                          have HST := Lib.hid (fun wx (hG : Frz (fun j => vb2.ownBlock = some j) W12 wx) => strF_c W12 wx B g _ _ _ _ _ _ (st.buf ++ x3) HH12.out.cells HH12.out.own HH12.out.nil (by rw [ByteArray.size_append]; have := HF.out; omega) hG)
                          have HRO := Lib.hid (fun wx (hG : Frz (fun j => vb2.ownBlock = some j) W12 wx) => HH12.out.row.upd hG.upd fun k hk e => HH12.out.ne_wb k hk e)
                          have HLW : ∀ k, vw1.ownBlock = some k → k < W12.heap.size := fun k hk => HH12.out.lt k (.inr (.inr (.inl hk)))
                          have HLB : ∀ k, vb2.ownBlock = some k → k < W12.heap.size := fun k hk => HH12.out.lt k (.inr (.inr (.inr hk)))
                          have HBS := Lib.hid (show B ≤ W12.heap.size from Nat.le_trans hB HU12.out.size)
                          clear hlast
                          go_wp2_with fail
                          rw [← HW12.out]
                          clear e2 e5 e2s e5s e2w hg8g hgg8 q5 f5 hw2
                          apply region_bigU (fun j => vb2.ownBlock = some j) (fun w w' => w.grownBy w' vw1.ownBlock) [.float, .plain, .plain, .plain, .plain, .plain, .plain, .plain, .plain, .plain, .big] [Is _, Is _, Is _, Is _, Is _, Is _, Is _, Is _, Is (.string (st.buf ++ x3)), OneN 9 (.string (st.buf ++ x3)) W12.heap.size, AppO B 9 1 (strs st.whole ++ [.string (st.buf ++ x3)]) (st.whole.length + 1) vw1 W12.heap.size] [([(0, none)], none), ([(0, none)], none), ([(109, some 1)], none), ([(110, some 2)], none), ([(111, some 3)], none), ([(0, none)], none), ([(113, some 5)], none), ([(114, some 6)], none), ([(115, some 7)], none), ([(116, some 8)], none), ([(112, some 4), (117, some 9)], none)] [(117, 9), (118, 10), (108, 0), (109, 1), (110, 2), (111, 3), (112, 4), (113, 5), (114, 6), (115, 7), (116, 8)] rfl (by kernel_rfl) (by kernel_rfl) (by kernel_rfl) (by kernel_rfl) rfl (show StableB (Frz (fun j => vb2.ownBlock = some j)) _ _ _ from ⟨(fun _ => Is.stableB _), (fun _ => Is.stableB _), (fun _ => Is.stableB _), (fun _ => Is.stableB _), (fun _ => Is.stableB _), (fun _ => Is.stableB _), (fun _ => Is.stableB _), (fun _ => Is.stableB _), (fun _ => Is.stableB _), (fun _ => OneN.stableB _ _ _ HLB HLW), (fun h_ => absurd rfl h_), trivial⟩)
                          · show PhHold _ _ _ _ _ _ _ _ _ _ _
                            refine ⟨fun a_ wx hD K hK => ?_, ?_⟩
                            · have hF_ := True.intro
                              simp [Deps, Dep, at_, Is] at hD
                              go_simp
                              exact hK _ _ rfl rfl
                            refine ⟨fun a_ wx hR hD K hK => ?_, ?_⟩
                            · have hG : Frz (fun j => vb2.ownBlock = some j) W12 wx := (Frz.of_grew (Grew.drew _)).trans hR
                              simp [Deps, Dep, at_, Is] at hD
                              go_simp
                              exact hK _ _ (Frz.refl _ _) rfl
                            refine ⟨fun a_ wx hR hD K hK => ?_, ?_⟩
                            · have hG : Frz (fun j => vb2.ownBlock = some j) W12 wx := (Frz.of_grew (Grew.drew _)).trans hR
                              simp [Deps, Dep, at_, Is] at hD
                              go_simp
                              exact hK _ _ (Frz.refl _ _) rfl
                            refine ⟨fun a_ wx hR hD K hK => ?_, ?_⟩
                            · have hG : Frz (fun j => vb2.ownBlock = some j) W12 wx := (Frz.of_grew (Grew.drew _)).trans hR
                              simp [Deps, Dep, at_, Is] at hD
                              go_simp
                              exact hK _ _ (Frz.refl _ _) rfl
                            refine ⟨fun a_ wx hR hD K hK => ?_, ?_⟩
                            · have hG : Frz (fun j => vb2.ownBlock = some j) W12 wx := (Frz.of_grew (Grew.drew _)).trans hR
                              simp [Deps, Dep, at_, Is] at hD
                              have e_ := HV2.out wx hG
                              go_simp
                              exact hK _ _ (Frz.refl _ _) rfl
                            refine ⟨fun a_ wx hR hD K hK => ?_, ?_⟩
                            · have hG : Frz (fun j => vb2.ownBlock = some j) W12 wx := (Frz.of_grew (Grew.drew _)).trans hR
                              simp [Deps, Dep, at_, Is] at hD
                              go_simp
                              exact hK _ _ (Frz.refl _ _) rfl
                            refine ⟨fun a_ wx hR hD K hK => ?_, ?_⟩
                            · have hG : Frz (fun j => vb2.ownBlock = some j) W12 wx := (Frz.of_grew (Grew.drew _)).trans hR
                              simp [Deps, Dep, at_, Is] at hD
                              go_simp
                              exact hK _ _ (Frz.refl _ _) rfl
                            refine ⟨fun a_ wx hR hD K hK => ?_, ?_⟩
                            · have hG : Frz (fun j => vb2.ownBlock = some j) W12 wx := (Frz.of_grew (Grew.drew _)).trans hR
                              simp [Deps, Dep, at_, Is] at hD
                              go_simp
                              exact hK _ _ (Frz.refl _ _) rfl
                            refine ⟨fun a_ wx hR hD K hK => ?_, ?_⟩
                            · have hG : Frz (fun j => vb2.ownBlock = some j) W12 wx := (Frz.of_grew (Grew.drew _)).trans hR
                              simp [Deps, Dep, at_, Is] at hD
                              go_simp
                              have hcn := HST.out wx hG
                              with_reducible refine hcn.mono ?_
                              clear hcn
                              rintro e wy ⟨v, rfl, hv, hg⟩
                              exact hK _ _ hg hv
                            refine ⟨fun a_ wx hR hD K hK => ?_, ?_⟩
                            · have hG : Frz (fun j => vb2.ownBlock = some j) W12 wx := (Frz.of_grew (Grew.drew _)).trans hR
                              simp [Deps, Dep, at_, Is] at hD
                              go_simp
                              exact hK _ _ (Frz.of_grew (Grew.alloc _ _)) ⟨_, rfl, Blk.new _ _ _, hG.upd.size⟩
                            refine ⟨⟨rfl, fun a_ wx hR hD K hK => ?_⟩, ?_⟩
                            · have hG : Frz (fun j => vb2.ownBlock = some j) W12 wx := (Frz.of_grew (Grew.drew _)).trans hR
                              simp [Deps, Dep, at_, Is] at hD
                              obtain ⟨hd0, hd1⟩ := hD
                              obtain ⟨g1, h1, h2, h3⟩ := hd1
                              obtain ⟨v1, wy, hrun, hown1, hgr1, hat1⟩ := app_rowO (P := Try.prog) wx B 40 9 40 (.string ⟨#[]⟩) 1 16 Try.underlying40 infoS16 rfl (by decide) (by decide) vw1 st.whole.length _ g1 [.string (st.buf ++ x3)] rfl (by intro u hu; simp at hu; rw [hu]; rfl) (HRO.out wx hG) h2 (Nat.le_trans HBS.out hG.upd.size) (by have := HF.out; omega)
                              exact wp_app (.tmp 112) (.tmp 117) 40 (by rfl) (eval_tmp hd0) (eval_tmp h1) hrun (hK _ _ hgr1 ⟨hown1, hat1.imp id (fun ⟨k, h, h'⟩ => ⟨k, h, Nat.le_trans hG.upd.size h'⟩)⟩)
                            trivial
                          · show EndHold _ _ _ _ _ _ _
                            intro v117
                            intro v118
                            refine end_all (xs := [_, _, _, _, _, _, _, _, _]) ⟨rfl, rfl, rfl, rfl, rfl, rfl, rfl, rfl, rfl, trivial⟩ ?_
                            rintro w13 hR1 ⟨⟨-, hOne⟩, hApp⟩
                            refine ⟨?_⟩
                            obtain ⟨wm_w13, hRm, hP_w13⟩ := hR1
                            have hG_w13 : Frz (fun j => vb2.ownBlock = some j) W12 wm_w13 := (Frz.of_grew (Grew.drew _)).trans hRm
                            clear hRm
                            simp only [Act.put, List.setIfInBounds_toArray, List.set_cons_succ, List.set_cons_zero, dropN, putEach]
                            obtain ⟨hro, hat⟩ := hApp
                            obtain ⟨A2, c2, hv2, -⟩ := hro.slice
                            subst hv2
                            obtain ⟨hc13, hf13, hq13, hfin⟩ := HH12.out.told_ hG_w13 hro hP_w13 hat
                            have HFIN := Lib.hid hfin
                            have HRS2 := Lib.hid (reset_c _ g _ _ _ _ _ _ hc13)
                            have hlv1 : Late g m vw vb w.heap.size (Value.slice A2 (st.whole.length + 1) c2) := by
                              intro k hk
                              rcases hat with h | ⟨k2, h, h2⟩
                              · rw [h] at hk; exact HL1.out k hk
                              · rw [h] at hk
                                injection hk with hk
                                exact .inr (by have := HU12.out.size; omega)
                            have HLV1 := Lib.hid hlv1
                            clear hro hat hfin hlv1 hG_w13 hP_w13 hOne hc13
                            go_wp2_with fail
                            refine HRS2.out.mono ?_
                            rintro e w14 ⟨rfl, hc14, hu14⟩
                            obtain ⟨h14, hu14'⟩ := HFIN.out w14 hc14 hu14
                            have h15 := h14.num_ 0
                            have q15 := h14.cells.at_ 5
                            have f15 := h14.cells.fz 5
                            simp only [List.getElem?_cons_succ, List.getElem?_cons_zero] at q15
                            have hu15 := HU12.out.then_ (hu14'.trans ((updG w14 g 5 (.int .i64 0)).mono fun j _ e => .inl e)) fun i hi hs => by
                              rcases hs with e | e | e | e
                              · exact .inl e
                              · exact .inr (.inl e)
                              · rcases HL1.out i e with h | h
                                · exact h
                                · omega
                              · rcases HLV.out i e with h | h
                                · exact h
                                · omega
                            have H15 := Lib.hid h15
                            have HU15 := Lib.hid hu15
                            clear h14 hu14' hc14 hu14 h15 hu15 hf13 hq13 HRS2
                            go_wp2_with fail
                            go_roundw
                            case rel => exact ⟨j', _, _, _, _, HDR2.out, HKJ2.out, HOK2.out, by rw [hstep.out]; have h := H15.out; rw [HGG.out] at h; exact h, HU15.out, HLV1.out, fun k hk => by simp [Value.ownBlock] at hk⟩
                            case measure =>
                              have h1 := HE0.out wr (Grew.refl _)
                              have h2 := H15.out.cells.at_ 0
                              simp only [List.getElem?_cons_zero] at h2
                              have h3 := HF.out
                              simp [intOf, h1, h2]
                              omega
                        | false =>
                          have h21 : n1 = 21 := hlast.resolve_left (by decide)
                          subst h21
                          have hstep := Lib.hid (show stepR st ⟨x0, x1, false, x3, x4⟩ = ⟨st.gap + 1, delF st.F st.gap, st.whole ++ [st.buf ++ x3], ⟨#[]⟩, 0⟩ from by
                            unfold stepR
                            rw [if_pos]
                            exact .inr HN1.out.symm)
                          have HV2 := Lib.hid (fun wx (hG : Frz (fun j => vb2.ownBlock = some j) W12 wx) => show wx.cell? ⟨g, 2, none⟩ = some vw1 from hG.cell _ _ (by rw [HH12.out.cells.at_]; rfl))
                          have HST := Lib.hid (fun wx (hG : Frz (fun j => vb2.ownBlock = some j) W12 wx) => strF_c W12 wx B g _ _ _ _ _ _ (st.buf ++ x3) HH12.out.cells HH12.out.own HH12.out.nil (by rw [ByteArray.size_append]; have := HF.out; omega) hG)
                          have HRO := Lib.hid (fun wx (hG : Frz (fun j => vb2.ownBlock = some j) W12 wx) => HH12.out.row.upd hG.upd fun k hk e => HH12.out.ne_wb k hk e)
                          have HLW : ∀ k, vw1.ownBlock = some k → k < W12.heap.size := fun k hk => HH12.out.lt k (.inr (.inr (.inl hk)))
                          have HLB : ∀ k, vb2.ownBlock = some k → k < W12.heap.size := fun k hk => HH12.out.lt k (.inr (.inr (.inr hk)))
                          have HBS := Lib.hid (show B ≤ W12.heap.size from Nat.le_trans hB HU12.out.size)
                          clear hlast
                          go_wp2_with fail
                          rw [← HW12.out]
                          clear e2 e5 e2s e5s e2w hg8g hgg8 q5 f5 hw2
                          apply region_bigU (fun j => vb2.ownBlock = some j) (fun w w' => w.grownBy w' vw1.ownBlock) [.float, .plain, .plain, .plain, .plain, .plain, .plain, .plain, .plain, .plain, .big] [Is _, Is _, Is _, Is _, Is _, Is _, Is _, Is _, Is (.string (st.buf ++ x3)), OneN 9 (.string (st.buf ++ x3)) W12.heap.size, AppO B 9 1 (strs st.whole ++ [.string (st.buf ++ x3)]) (st.whole.length + 1) vw1 W12.heap.size] [([(0, none)], none), ([(0, none)], none), ([(109, some 1)], none), ([(110, some 2)], none), ([(111, some 3)], none), ([(0, none)], none), ([(113, some 5)], none), ([(114, some 6)], none), ([(115, some 7)], none), ([(116, some 8)], none), ([(112, some 4), (117, some 9)], none)] [(117, 9), (118, 10), (108, 0), (109, 1), (110, 2), (111, 3), (112, 4), (113, 5), (114, 6), (115, 7), (116, 8)] rfl (by kernel_rfl) (by kernel_rfl) (by kernel_rfl) (by kernel_rfl) rfl (show StableB (Frz (fun j => vb2.ownBlock = some j)) _ _ _ from ⟨(fun _ => Is.stableB _), (fun _ => Is.stableB _), (fun _ => Is.stableB _), (fun _ => Is.stableB _), (fun _ => Is.stableB _), (fun _ => Is.stableB _), (fun _ => Is.stableB _), (fun _ => Is.stableB _), (fun _ => Is.stableB _), (fun _ => OneN.stableB _ _ _ HLB HLW), (fun h_ => absurd rfl h_), trivial⟩)
                          · show PhHold _ _ _ _ _ _ _ _ _ _ _
                            refine ⟨fun a_ wx hD K hK => ?_, ?_⟩
                            · have hF_ := True.intro
                              simp [Deps, Dep, at_, Is] at hD
                              go_simp
                              exact hK _ _ rfl rfl
                            refine ⟨fun a_ wx hR hD K hK => ?_, ?_⟩
                            · have hG : Frz (fun j => vb2.ownBlock = some j) W12 wx := (Frz.of_grew (Grew.drew _)).trans hR
                              simp [Deps, Dep, at_, Is] at hD
                              go_simp
                              exact hK _ _ (Frz.refl _ _) rfl
                            refine ⟨fun a_ wx hR hD K hK => ?_, ?_⟩
                            · have hG : Frz (fun j => vb2.ownBlock = some j) W12 wx := (Frz.of_grew (Grew.drew _)).trans hR
                              simp [Deps, Dep, at_, Is] at hD
                              go_simp
                              exact hK _ _ (Frz.refl _ _) rfl
                            refine ⟨fun a_ wx hR hD K hK => ?_, ?_⟩
                            · have hG : Frz (fun j => vb2.ownBlock = some j) W12 wx := (Frz.of_grew (Grew.drew _)).trans hR
                              simp [Deps, Dep, at_, Is] at hD
                              go_simp
                              exact hK _ _ (Frz.refl _ _) rfl
                            refine ⟨fun a_ wx hR hD K hK => ?_, ?_⟩
                            · have hG : Frz (fun j => vb2.ownBlock = some j) W12 wx := (Frz.of_grew (Grew.drew _)).trans hR
                              simp [Deps, Dep, at_, Is] at hD
                              have e_ := HV2.out wx hG
                              go_simp
                              exact hK _ _ (Frz.refl _ _) rfl
                            refine ⟨fun a_ wx hR hD K hK => ?_, ?_⟩
                            · have hG : Frz (fun j => vb2.ownBlock = some j) W12 wx := (Frz.of_grew (Grew.drew _)).trans hR
                              simp [Deps, Dep, at_, Is] at hD
                              go_simp
                              exact hK _ _ (Frz.refl _ _) rfl
                            refine ⟨fun a_ wx hR hD K hK => ?_, ?_⟩
                            · have hG : Frz (fun j => vb2.ownBlock = some j) W12 wx := (Frz.of_grew (Grew.drew _)).trans hR
                              simp [Deps, Dep, at_, Is] at hD
                              go_simp
                              exact hK _ _ (Frz.refl _ _) rfl
                            refine ⟨fun a_ wx hR hD K hK => ?_, ?_⟩
                            · have hG : Frz (fun j => vb2.ownBlock = some j) W12 wx := (Frz.of_grew (Grew.drew _)).trans hR
                              simp [Deps, Dep, at_, Is] at hD
                              go_simp
                              exact hK _ _ (Frz.refl _ _) rfl
                            refine ⟨fun a_ wx hR hD K hK => ?_, ?_⟩
                            · have hG : Frz (fun j => vb2.ownBlock = some j) W12 wx := (Frz.of_grew (Grew.drew _)).trans hR
                              simp [Deps, Dep, at_, Is] at hD
                              go_simp
                              have hcn := HST.out wx hG
                              with_reducible refine hcn.mono ?_
                              clear hcn
                              rintro e wy ⟨v, rfl, hv, hg⟩
                              exact hK _ _ hg hv
                            refine ⟨fun a_ wx hR hD K hK => ?_, ?_⟩
                            · have hG : Frz (fun j => vb2.ownBlock = some j) W12 wx := (Frz.of_grew (Grew.drew _)).trans hR
                              simp [Deps, Dep, at_, Is] at hD
                              go_simp
                              exact hK _ _ (Frz.of_grew (Grew.alloc _ _)) ⟨_, rfl, Blk.new _ _ _, hG.upd.size⟩
                            refine ⟨⟨rfl, fun a_ wx hR hD K hK => ?_⟩, ?_⟩
                            · have hG : Frz (fun j => vb2.ownBlock = some j) W12 wx := (Frz.of_grew (Grew.drew _)).trans hR
                              simp [Deps, Dep, at_, Is] at hD
                              obtain ⟨hd0, hd1⟩ := hD
                              obtain ⟨g1, h1, h2, h3⟩ := hd1
                              obtain ⟨v1, wy, hrun, hown1, hgr1, hat1⟩ := app_rowO (P := Try.prog) wx B 40 9 40 (.string ⟨#[]⟩) 1 16 Try.underlying40 infoS16 rfl (by decide) (by decide) vw1 st.whole.length _ g1 [.string (st.buf ++ x3)] rfl (by intro u hu; simp at hu; rw [hu]; rfl) (HRO.out wx hG) h2 (Nat.le_trans HBS.out hG.upd.size) (by have := HF.out; omega)
                              exact wp_app (.tmp 112) (.tmp 117) 40 (by rfl) (eval_tmp hd0) (eval_tmp h1) hrun (hK _ _ hgr1 ⟨hown1, hat1.imp id (fun ⟨k, h, h'⟩ => ⟨k, h, Nat.le_trans hG.upd.size h'⟩)⟩)
                            trivial
                          · show EndHold _ _ _ _ _ _ _
                            intro v117
                            intro v118
                            refine end_all (xs := [_, _, _, _, _, _, _, _, _]) ⟨rfl, rfl, rfl, rfl, rfl, rfl, rfl, rfl, rfl, trivial⟩ ?_
                            rintro w13 hR1 ⟨⟨-, hOne⟩, hApp⟩
                            refine ⟨?_⟩
                            obtain ⟨wm_w13, hRm, hP_w13⟩ := hR1
                            have hG_w13 : Frz (fun j => vb2.ownBlock = some j) W12 wm_w13 := (Frz.of_grew (Grew.drew _)).trans hRm
                            clear hRm
                            simp only [Act.put, List.setIfInBounds_toArray, List.set_cons_succ, List.set_cons_zero, dropN, putEach]
                            obtain ⟨hro, hat⟩ := hApp
                            obtain ⟨A2, c2, hv2, -⟩ := hro.slice
                            subst hv2
                            obtain ⟨hc13, hf13, hq13, hfin⟩ := HH12.out.told_ hG_w13 hro hP_w13 hat
                            have HFIN := Lib.hid hfin
                            have HRS2 := Lib.hid (reset_c _ g _ _ _ _ _ _ hc13)
                            have hlv1 : Late g m vw vb w.heap.size (Value.slice A2 (st.whole.length + 1) c2) := by
                              intro k hk
                              rcases hat with h | ⟨k2, h, h2⟩
                              · rw [h] at hk; exact HL1.out k hk
                              · rw [h] at hk
                                injection hk with hk
                                exact .inr (by have := HU12.out.size; omega)
                            have HLV1 := Lib.hid hlv1
                            clear hro hat hfin hlv1 hG_w13 hP_w13 hOne hc13
                            go_wp2_with fail
                            refine HRS2.out.mono ?_
                            rintro e w14 ⟨rfl, hc14, hu14⟩
                            obtain ⟨h14, hu14'⟩ := HFIN.out w14 hc14 hu14
                            have h15 := h14.num_ 0
                            have q15 := h14.cells.at_ 5
                            have f15 := h14.cells.fz 5
                            simp only [List.getElem?_cons_succ, List.getElem?_cons_zero] at q15
                            have hu15 := HU12.out.then_ (hu14'.trans ((updG w14 g 5 (.int .i64 0)).mono fun j _ e => .inl e)) fun i hi hs => by
                              rcases hs with e | e | e | e
                              · exact .inl e
                              · exact .inr (.inl e)
                              · rcases HL1.out i e with h | h
                                · exact h
                                · omega
                              · rcases HLV.out i e with h | h
                                · exact h
                                · omega
                            have H15 := Lib.hid h15
                            have HU15 := Lib.hid hu15
                            clear h14 hu14' hc14 hu14 h15 hu15 hf13 hq13 HRS2
                            go_wp2_with fail
                            go_roundw
                            case rel => exact ⟨j', _, _, _, _, HDR2.out, HKJ2.out, HOK2.out, by rw [hstep.out]; have h := H15.out; rw [HGG.out] at h; exact h, HU15.out, HLV1.out, fun k hk => by simp [Value.ownBlock] at hk⟩
                            case measure =>
                              have h1 := HE0.out wr (Grew.refl _)
                              have h2 := H15.out.cells.at_ 0
                              simp only [List.getElem?_cons_zero] at h2
                              have h3 := HF.out
                              simp [intOf, h1, h2]
                              omega
                      · obtain rfl : x2 = false := by
                          cases x2 with
                          | true => exact absurd (.inl rfl) hlast
                          | false => rfl
                        have hne : ¬ n1 = 21 := fun e => hlast (.inr e)
                        have d21 : decide (n1 = 21) = false := decide_eq_false hne
                        have hstep := Lib.hid (show stepR st ⟨x0, x1, false, x3, x4⟩ = ⟨st.gap + 1, delF st.F st.gap, st.whole, st.buf ++ x3, st.n + 1⟩ from by
                          unfold stepR
                          rw [if_neg]
                          rintro (h | h)
                          · cases h
                          · rw [HN1.out] at hne; exact hne h)
                        clear hlast
                        go_wp2_with fail
                        rw [← HW12.out]
                        go_roundw
                        case rel => exact ⟨j', _, _, _, _, HDR2.out, HKJ2.out, HOK2.out, by rw [hstep.out]; have h := HH12.out; rw [HN1.out, HGG.out] at h; exact h, HU12.out, HL1.out, HLV.out⟩
                        case measure =>
                          have h1 := HE0.out wr (Grew.refl _)
                          have h2 := HH12.out.cells.at_ 0
                          simp only [List.getElem?_cons_zero] at h2
                          have h3 := HF.out
                          simp [intOf, h1, h2]
                          omega
end Go.Proofs.Yteaefambkagpbaa.F

-- F37
namespace Go.Proofs.Yteaefambkagpbaa.F
open Go.RowKit Go.Proofs.YteaefambkagpbaaW.PrintWords Go.Proofs.YteaefambkagpbaaW.PrintLast Go.Proofs.YteaefambkagpbaaW.PrintMore
attribute [local go_sem] max2_int min2_int max_two min_two max_three min_three max_four min_four   -- for this text's walks alone
set_option linter.unusedVariables false
set_option linter.unusedSimpArgs false

/-! ### strongroomlaw26_nth: function 37 -/
def strongroomlaw26_nth.f (l0 : List (S73)) (a1 : Int) : Option (Int × Int) := if a1 < (l0.length : Int) then (if 0 ≤ a1 then (some ((rd_T73 l0 a1).f0, (rd_T73 l0 a1).f1)) else (none)) else (some (0, 0))
set_option maxHeartbeats 8000000 in
set_option maxRecDepth 100000 in
theorem strongroomlaw26_nth.calls (A0 : Option Addr) (c0 : Nat) (l0 : List (S73)) (a1 : Int) (r1 : Int) (r2 : Int) (w : World) (hr0 : Kd.C k73 w A0 l0.length l0) (hc0 : l0.length ≤ c0) (h : strongroomlaw26_nth.f l0 a1 = some (r1, r2)) :
    Calls Try.prog 37 #[.slice A0 l0.length c0, .int .i64 a1] w fun e w' => e = .returned (.agg #[.int .i64 r1, .int .i64 r2]) ∧ Below w.heap.size w w' := by
  have hu73 := Try.underlying73
  have HR0 := Aside0.mk hr0
  have HC0 := Aside0.mk hc0
  clear hr0 hc0
  have HB := Aside0.mk (Below.refl w.heap.size w)
  have H : (if a1 < (l0.length : Int) then (if 0 ≤ a1 then (some ((rd_T73 l0 a1).f0, (rd_T73 l0 a1).f1)) else (none)) else (some (0, 0))) = some (r1, r2) := h
  clear h
  by_cases c3 : a1 < (l0.length : Int)
  · rw [if_pos c3] at H
    have c3b0 : decide (a1 < (l0.length : Int)) = true := decide_eq_true c3
    clear c3
    by_cases c4 : 0 ≤ a1
    · rw [if_pos c4] at H
      have c4b0 : decide (0 ≤ a1) = true := decide_eq_true c4
      clear c4
      simp only [Option.some.injEq, Prod.mk.injEq] at H
      obtain ⟨rfl, rfl⟩ := H
      go_enter Try.func37, Try.ntmps37
      go_wp2_with (first | ((with_reducible refine gate_dst (N := 4) rfl ?_); refine box_event ?hg (N := 4) ?hd (cs := #[.int .i64 0, .int .i64 0]) (t := 73) ?hr ?_; (case hd => rfl); (case hg => rfl); (case hr => first | (go_simp; done) | (go_simp; rfl)); intro gb210 hg w5 hbox hb; have n0_ := Aside0.mk (below_step (by repeat (first | (with_reducible first | exact HB.out | apply below_alloc | apply pw_below_drewN | apply below_drew1) | exact HB.out)) hb); have n1_ := Aside0.mk (hbox); have n2_ := Aside0.mk ((by rw [hg]; exact (below_size (by repeat (first | (with_reducible first | exact HB.out | apply below_alloc | apply pw_below_drewN | apply below_drew1) | exact HB.out))) : w.heap.size ≤ gb210)); have n3_ := Aside0.mk ((by rw [hg]; exact (below_size (by repeat (first | (with_reducible first | exact HB.out | apply below_alloc | apply pw_below_drewN | apply below_drew1) | exact HB.out))) : w.heap.size ≤ gb210)); clear HB; have HB := n0_; have BK210 := n1_; have GW210 := n2_; have GE210 := n3_; clear n0_ n1_ n2_ n3_; clear hb hbox hg; have p211 : 0 ≤ (a1 : Int) := of_decide_eq_true (by first | (with_reducible assumption) | assumption); have q211 : a1 < (l0.length : Int) := of_decide_eq_true (by first | (with_reducible assumption) | assumption); obtain ⟨ad211, e211, hx211_0, hx211_1⟩ := at_T73 HR0.out a1 p211 q211; cases e211; replace hx211_0 := (HB.out.cell (World.block_lt_of_cell? w _ hx211_0)).trans hx211_0; replace hx211_1 := (HB.out.cell (World.block_lt_of_cell? w _ hx211_1)).trans hx211_1; replace p211 := eq_true p211; replace q211 := eq_true q211; have hcz6_0 : w5.cell? ⟨gb210, 0, none⟩ = some (.int .i64 0) := (blk_cell BK210.out 0).trans rfl; have hcz6_1 : w5.cell? ⟨gb210, 1, none⟩ = some (.int .i64 0) := (blk_cell BK210.out 1).trans rfl; have hfz6_0 := blk_frozen BK210.out 0; have hfz6_1 := blk_frozen BK210.out 1))
      refine bodyPost_ret (results_cell_row rfl _ _ gb210 73 #[.int .i64 ((rd_T73 l0 a1).f0), .int .i64 ((rd_T73 l0 a1).f1)] (0, 0) _ rfl (by (with_reducible repeat (first | refine blk_drewN ?_ _ | refine blk_drew ?_ | refine blk_alloc ?_ _)); refine blk_put (cs := #[.int .i64 ((rd_T73 l0 a1).f0), .int .i64 0]) ?_ 1 _ rfl; (with_reducible repeat (first | refine blk_drewN ?_ _ | refine blk_drew ?_ | refine blk_alloc ?_ _)); refine blk_put (cs := #[.int .i64 0, .int .i64 0]) ?_ 0 _ rfl; (with_reducible repeat (first | refine blk_drewN ?_ _ | refine blk_drew ?_ | refine blk_alloc ?_ _)); exact BK210.out) Try.underlying73 rfl (by kernel_rfl)) rfl ?_
      exact ⟨by first | rfl | (simp [errW_none, errW_some] <;> rfl) | (simp [*, errW_none, errW_some] <;> rfl), by repeat (first | (with_reducible first | exact HB.out | apply below_alloc | apply pw_below_drewN | apply below_drew1 | refine below_set ?_ GE210.out) | exact HB.out)⟩
    · rw [if_neg c4] at H
      exact absurd H (by simp)
  · rw [if_neg c3] at H
    have c3b0 : decide (a1 < (l0.length : Int)) = false := decide_eq_false c3
    clear c3
    simp only [Option.some.injEq, Prod.mk.injEq] at H
    obtain ⟨rfl, rfl⟩ := H
    go_enter Try.func37, Try.ntmps37
    go_wp2_with (first | ((with_reducible refine gate_dst (N := 4) rfl ?_); refine box_event ?hg (N := 4) ?hd (cs := #[.int .i64 0, .int .i64 0]) (t := 73) ?hr ?_; (case hd => rfl); (case hg => rfl); (case hr => first | (go_simp; done) | (go_simp; rfl)); intro gb210 hg w7 hbox hb; have n0_ := Aside0.mk (below_step (by repeat (first | (with_reducible first | exact HB.out | apply below_alloc | apply pw_below_drewN | apply below_drew1) | exact HB.out)) hb); have n1_ := Aside0.mk (hbox); have n2_ := Aside0.mk ((by rw [hg]; exact (below_size (by repeat (first | (with_reducible first | exact HB.out | apply below_alloc | apply pw_below_drewN | apply below_drew1) | exact HB.out))) : w.heap.size ≤ gb210)); have n3_ := Aside0.mk ((by rw [hg]; exact (below_size (by repeat (first | (with_reducible first | exact HB.out | apply below_alloc | apply pw_below_drewN | apply below_drew1) | exact HB.out))) : w.heap.size ≤ gb210)); clear HB; have HB := n0_; have BK210 := n1_; have GW210 := n2_; have GE210 := n3_; clear n0_ n1_ n2_ n3_; clear hb hbox hg; have hcz8_0 : w7.cell? ⟨gb210, 0, none⟩ = some (.int .i64 0) := (blk_cell BK210.out 0).trans rfl; have hcz8_1 : w7.cell? ⟨gb210, 1, none⟩ = some (.int .i64 0) := (blk_cell BK210.out 1).trans rfl; have hfz8_0 := blk_frozen BK210.out 0; have hfz8_1 := blk_frozen BK210.out 1))
    refine bodyPost_ret (results_cell_row rfl _ _ gb210 73 #[.int .i64 0, .int .i64 0] (0, 0) _ rfl (by (with_reducible repeat (first | refine blk_drewN ?_ _ | refine blk_drew ?_ | refine blk_alloc ?_ _)); refine blk_put (cs := #[.int .i64 0, .int .i64 0]) ?_ 1 _ rfl; (with_reducible repeat (first | refine blk_drewN ?_ _ | refine blk_drew ?_ | refine blk_alloc ?_ _)); refine blk_put (cs := #[.int .i64 0, .int .i64 0]) ?_ 0 _ rfl; (with_reducible repeat (first | refine blk_drewN ?_ _ | refine blk_drew ?_ | refine blk_alloc ?_ _)); exact BK210.out) Try.underlying73 rfl (by kernel_rfl)) rfl ?_
    exact ⟨by first | rfl | (simp [errW_none, errW_some] <;> rfl) | (simp [*, errW_none, errW_some] <;> rfl), by repeat (first | (with_reducible first | exact HB.out | apply below_alloc | apply pw_below_drewN | apply below_drew1 | refine below_set ?_ GE210.out) | exact HB.out)⟩

-- NOT PRINTED: function 16 (strongroomlaw26_carried)

-- NOT PRINTED: function 18 (link_NewReceiver)

end Go.Proofs.Yteaefambkagpbaa.F

-- CarW
namespace Go.Proofs.Yteaefambkagpbaa.F
open Go Go.RowKit Go.Proofs.YteaefambkagpbaaW.PrintWords Go.Proofs.YteaefambkagpbaaW.PrintLast Go.Proofs.YteaefambkagpbaaW.PrintMore Go.Proofs.YteaefambkagpbaaM Go.Proofs.YteaefambkagpbaaR
set_option linter.unusedSimpArgs false
set_option linter.unusedVariables false
set_option maxRecDepth 100000
/-- what kind of block it is -/
def tagB (w : World) (k : Nat) : Option (Option TypeId) := (w.heap[k]?).map fun o => match o with
  | .cells _ t _ => some t
  | _ => none
theorem Blk.tag {w : World} {g : Nat} {t : TypeId} {cs : List Value} (h : Blk w g t cs) : tagB w g = some (some t) := by
  unfold Blk at h
  unfold tagB
  rw [h]
  rfl
theorem MapP.tag {w : World} {b : Nat} {F : MpF} (h : MapP w b F) : tagB w b = some none := by
  obtain ⟨es, clock, h1, -⟩ := h
  unfold tagB
  rw [h1]
  rfl
theorem RowO.tag {w : World} {base : Nat} {e : TypeId} {size n : Nat} {v : Value} {xs : List Value} (h : RowO w base e size v n xs) {k : Nat} (hk : v.ownBlock = some k) : tagB w k = some (some e) := by
  rcases h.2 with ⟨rfl, _⟩ | ⟨g, o, cap, cur, rfl, hb, hh, _⟩
  · simp [Value.ownBlock] at hk
  · have : g = k := by simpa [Value.ownBlock] using hk
    subst this
    unfold tagB
    rw [hh]
    rfl
theorem own_tag {w : World} {base : Nat} {e : TypeId} {size n : Nat} {v : Value} {xs : List Value} (h : w.ownsRow base e size v n xs) {k : Nat} (hk : v.ownBlock = some k) : tagB w k = some (some e) := (rowO_of_own h).tag hk
theorem SndM.tag {B g : Nat} {v : Value} {l : List Sd} {f n : Int} {w : World} (h : SndM B g v l f n w) {k : Nat} (hk : sndS g v k) : tagB w k = some (some 77) ∨ tagB w k = some (some 86) := by
  rcases hk with rfl | hk
  · exact .inl h.cells.tag
  · exact .inr (h.row.tag hk)
theorem RcvM.tag {B g m : Nat} {vw bp vb : Value} {gap : Int} {F : MpF} {whole : List ByteArray} {buf : ByteArray} {n : Int} {w : World} (h : RcvM B g m vw bp vb gap F whole buf n w) {k : Nat} (hk : rcvS g m vw vb k) :
    tagB w k = some (some 83) ∨ tagB w k = some none ∨ (tagB w k = some (some 9) ∧ vw.ownBlock = some k) ∨ tagB w k = some (some 5) := by
  rcases hk with rfl | rfl | hk | hk
  · exact .inl h.cells.tag
  · exact .inr (.inl h.map.tag)
  · exact .inr (.inr (.inl ⟨h.row.tag hk, hk⟩))
  · exact .inr (.inr (.inr ((rowO_of_own h.own).tag hk)))
theorem SndM.lt {B g : Nat} {v : Value} {l : List Sd} {f n : Int} {w : World} (h : SndM B g v l f n w) {k : Nat} (hk : sndS g v k) : k < w.heap.size := by
  rcases hk with rfl | hk
  · exact h.cells.lt
  · exact h.row.lt k hk
structure MemC (w0 : World) (B g1 g m : Nat) (s : CSt) (vs vw bp vb vp vk vt : Value) (w : World) : Prop where
  snd : SndM B g1 vs s.l s.f s.now w
  rcv : RcvT B g m vw bp vb s.R w
  parts : w.ownsRow w0.heap.size 30 5 vp s.parts.length (pks s.parts)
  backs : w.ownsRow w0.heap.size 30 5 vk s.backs.length (pks s.backs)
  told : w.ownsRow w0.heap.size 9 1 vt s.told.length (strs s.told)
  pk : ∀ k, vp.ownBlock = some k → vk.ownBlock ≠ some k
  tw : ∀ k, vt.ownBlock = some k → vw.ownBlock ≠ some k
  ls : ∀ k, vs.ownBlock = some k → w0.heap.size ≤ k
  lw : ∀ k, vw.ownBlock = some k → w0.heap.size ≤ k
  lb : ∀ k, vb.ownBlock = some k → w0.heap.size ≤ k
  k1 : g1 < w0.heap.size
  k2 : g < w0.heap.size
  k3 : m < w0.heap.size
  upd : Upd (fun k => k = g1 ∨ k = g ∨ k = m) w0 w
section
variable {w0 : World} {B g1 g m : Nat} {s : CSt} {vs vw bp vb vp vk vt : Value} {w w' : World}
theorem MemC.size (h : MemC w0 B g1 g m s vs vw bp vb vp vk vt w) : w0.heap.size ≤ w.heap.size := h.upd.size
theorem MemC.sr (h : MemC w0 B g1 g m s vs vw bp vb vp vk vt w) {k : Nat} (h1 : sndS g1 vs k) (h2 : rcvS g m vw vb k) : False := by
  rcases h.snd.tag h1 with e | e <;> rcases h.rcv.tag h2 with e2 | e2 | ⟨e2, -⟩ | e2 <;> rw [e] at e2 <;> revert e2 <;> decide
theorem MemC.pr {v : Value} {b n : Nat} {xs : List Value} (h : MemC w0 B g1 g m s vs vw bp vb vp vk vt w) (ho : w.ownsRow b 30 5 v n xs) {k : Nat} (hk : v.ownBlock = some k) (h2 : rcvS g m vw vb k) : False := by
  have e := own_tag ho hk
  rcases h.rcv.tag h2 with e2 | e2 | ⟨e2, -⟩ | e2 <;> rw [e] at e2 <;> revert e2 <;> decide
theorem MemC.ps {v : Value} {b n : Nat} {xs : List Value} (h : MemC w0 B g1 g m s vs vw bp vb vp vk vt w) (ho : w.ownsRow b 30 5 v n xs) {k : Nat} (hk : v.ownBlock = some k) (h2 : sndS g1 vs k) : False := by
  have e := own_tag ho hk
  rcases h.snd.tag h2 with e2 | e2 <;> rw [e] at e2 <;> revert e2 <;> decide
theorem MemC.tr (h : MemC w0 B g1 g m s vs vw bp vb vp vk vt w) {k : Nat} (hk : vt.ownBlock = some k) (h2 : rcvS g m vw vb k) : False := by
  have e := own_tag h.told hk
  rcases h.rcv.tag h2 with e2 | e2 | ⟨-, e2⟩ | e2
  · rw [e] at e2; revert e2; decide
  · rw [e] at e2; revert e2; decide
  · exact h.tw k hk e2
  · rw [e] at e2; revert e2; decide
theorem MemC.ts (h : MemC w0 B g1 g m s vs vw bp vb vp vk vt w) {k : Nat} (hk : vt.ownBlock = some k) (h2 : sndS g1 vs k) : False := by
  have e := own_tag h.told hk
  rcases h.snd.tag h2 with e2 | e2 <;> rw [e] at e2 <;> revert e2 <;> decide
theorem MemC.pt (h : MemC w0 B g1 g m s vs vw bp vb vp vk vt w) {v : Value} {b n : Nat} {xs : List Value} (ho : w.ownsRow b 30 5 v n xs) {k : Nat} (hk : v.ownBlock = some k) (h2 : vt.ownBlock = some k) : False := by
  have e := own_tag ho hk
  have e2 := own_tag h.told h2
  rw [e] at e2
  revert e2
  decide
theorem MemC.ssub (h : MemC w0 B g1 g m s vs vw bp vb vp vk vt w) : ∀ k, k < w0.heap.size → sndS g1 vs k → k = g1 ∨ k = g ∨ k = m := by
  intro k hk h2
  rcases h2 with e | e
  · exact .inl e
  · have := h.ls k e; omega
theorem MemC.rsub (h : MemC w0 B g1 g m s vs vw bp vb vp vk vt w) : ∀ k, k < w0.heap.size → rcvS g m vw vb k → k = g1 ∨ k = g ∨ k = m := by
  intro k hk h2
  rcases h2 with e | e | e | e
  · exact .inr (.inl e)
  · exact .inr (.inr e)
  · have := h.lw k e; omega
  · have := h.lb k e; omega
/-- the world only grew -/
theorem MemC.grew (h : MemC w0 B g1 g m s vs vw bp vb vp vk vt w) (hg : Grew w w') : MemC w0 B g1 g m s vs vw bp vb vp vk vt w' :=
  ⟨h.snd.grew hg, h.rcv.grew hg, pw_own_below h.parts hg, pw_own_below h.backs hg, pw_own_below h.told hg, h.pk, h.tw, h.ls, h.lw, h.lb, h.k1, h.k2, h.k3, h.upd.trans (Upd.of_grew hg)⟩
/-- the sender went on -/
theorem MemC.send (h : MemC w0 B g1 g m s vs vw bp vb vp vk vt w) {l : List Sd} {f n : Int} {vs' : Value} (hs : SndM B g1 vs' l f n w') (hu : Upd (sndS g1 vs) w w') (hat : vs'.ownBlock = vs.ownBlock ∨ ∃ k, vs'.ownBlock = some k ∧ w.heap.size ≤ k) (p q : Nat) :
    MemC w0 B g1 g m ⟨l, f, n, s.R, s.parts, s.backs, s.told, p, q⟩ vs' vw bp vb vp vk vt w' := by
  refine ⟨hs, h.rcv.far hu fun k h1 h2 => h.sr h2 h1, hu.own h.parts fun k h1 h2 => h.ps h.parts h1 h2, hu.own h.backs fun k h1 h2 => h.ps h.backs h1 h2, hu.own h.told fun k h1 h2 => h.ts h1 h2, h.pk, h.tw, ?_, h.lw, h.lb, h.k1, h.k2, h.k3, h.upd.then_ hu fun k hk h2 => h.ssub k hk h2⟩
  intro k hk
  rcases hat with e | ⟨k2, e, hk2⟩
  · rw [e] at hk; exact h.ls k hk
  · rw [e] at hk
    injection hk with hk
    have := h.size
    omega
/-- the receiver went on -/
theorem MemC.recv (h : MemC w0 B g1 g m s vs vw bp vb vp vk vt w) {R' : RSt} {vw' bp' vb' : Value} (hr : RcvT B g m vw' bp' vb' R' w') (hu : Upd (rcvS g m vw vb) w w') (hw : Late g m vw vb w.heap.size vw') (hb : Late g m vw vb w.heap.size vb') (p q : Nat) :
    MemC w0 B g1 g m ⟨s.l, s.f, s.now, R', s.parts, s.backs, s.told, p, q⟩ vs vw' bp' vb' vp vk vt w' := by
  have hsz := h.size
  refine ⟨h.snd.far hu fun k h1 h2 => h.sr h1 h2, hr, hu.own h.parts fun k h1 h2 => h.pr h.parts h1 h2, hu.own h.backs fun k h1 h2 => h.pr h.backs h1 h2, hu.own h.told fun k h1 h2 => h.tr h1 h2, h.pk, ?_, h.ls, ?_, ?_, h.k1, h.k2, h.k3, h.upd.then_ hu fun k hk h2 => h.rsub k hk h2⟩
  · intro k h1 h2
    rcases hw k h2 with h3 | h3
    · exact h.tr h1 h3
    · have := own_lt h.told k h1
      omega
  · intro k hk
    rcases hw k hk with (e | e | e | e) | e
    · exact absurd (by rw [hk, e]) hr.ne_wg
    · exact absurd (by rw [hk, e]) hr.ne_wm
    · exact h.lw k e
    · exact h.lb k e
    · omega
  · intro k hk
    rcases hb k hk with (e | e | e | e) | e
    · exact absurd (by rw [hk, e]) hr.ne_bg
    · exact absurd (by rw [hk, e]) hr.ne_bm
    · exact h.lw k e
    · exact h.lb k e
    · omega
/-- a row of its own grew -/
theorem late_grown {v v' : Value} {N : Nat} (hat : v'.ownBlock = v.ownBlock ∨ ∃ k, v'.ownBlock = some k ∧ N ≤ k) {k : Nat} (hk : v'.ownBlock = some k) : v.ownBlock = some k ∨ N ≤ k := by
  rcases hat with e | ⟨k2, e, hk2⟩
  · exact .inl (by rw [← e]; exact hk)
  · rw [e] at hk
    injection hk with hk
    exact .inr (by omega)
theorem MemC.part (h : MemC w0 B g1 g m s vs vw bp vb vp vk vt w) {p : Pkt} {vp' : Value} (ho : w'.ownsRow w0.heap.size 30 5 vp' (s.parts.length + 1) (pks s.parts ++ pkc p)) (hu : Upd (fun k => vp.ownBlock = some k) w w') (hat : vp'.ownBlock = vp.ownBlock ∨ ∃ k, vp'.ownBlock = some k ∧ w.heap.size ≤ k) (q : Nat) :
    MemC w0 B g1 g m ⟨s.l, s.f, s.now, s.R, s.parts ++ [p], s.backs, s.told, s.put, q⟩ vs vw bp vb vp' vk vt w' := by
  have hsz := h.size
  refine ⟨h.snd.far hu fun k h1 h2 => h.ps h.parts h2 h1, h.rcv.far hu fun k h1 h2 => h.pr h.parts h2 h1, ?_, hu.own h.backs fun k h1 h2 => h.pk k h2 h1, hu.own h.told fun k h1 h2 => h.pt h.parts h2 h1, ?_, h.tw, h.ls, h.lw, h.lb, h.k1, h.k2, h.k3, h.upd.then_ hu fun k hk h2 => ?_⟩
  · simp only
    rw [List.length_append, List.length_singleton, pks_snoc]
    exact ho
  · intro k h1 h2
    rcases late_grown hat h1 with e | e
    · exact h.pk k e h2
    · have := own_lt h.backs k h2
      omega
  · have := own_base h.parts k h2
    omega
theorem MemC.back (h : MemC w0 B g1 g m s vs vw bp vb vp vk vt w) {p : Pkt} {vk' : Value} (ho : w'.ownsRow w0.heap.size 30 5 vk' (s.backs.length + 1) (pks s.backs ++ pkc p)) (hu : Upd (fun k => vk.ownBlock = some k) w w') (hat : vk'.ownBlock = vk.ownBlock ∨ ∃ k, vk'.ownBlock = some k ∧ w.heap.size ≤ k) (q : Nat) :
    MemC w0 B g1 g m ⟨s.l, s.f, s.now, s.R, s.parts, s.backs ++ [p], s.told, s.put, q⟩ vs vw bp vb vp vk' vt w' := by
  have hsz := h.size
  refine ⟨h.snd.far hu fun k h1 h2 => h.ps h.backs h2 h1, h.rcv.far hu fun k h1 h2 => h.pr h.backs h2 h1, hu.own h.parts fun k h1 h2 => h.pk k h1 h2, ?_, hu.own h.told fun k h1 h2 => h.pt h.backs h2 h1, ?_, h.tw, h.ls, h.lw, h.lb, h.k1, h.k2, h.k3, h.upd.then_ hu fun k hk h2 => ?_⟩
  · simp only
    rw [List.length_append, List.length_singleton, pks_snoc]
    exact ho
  · intro k h1 h2
    rcases late_grown hat h2 with e | e
    · exact h.pk k h1 e
    · have := own_lt h.parts k h1
      omega
  · have := own_base h.backs k h2
    omega
theorem MemC.tell (h : MemC w0 B g1 g m s vs vw bp vb vp vk vt w) {x : ByteArray} {vt' : Value} (ho : w'.ownsRow w0.heap.size 9 1 vt' (s.told.length + 1) (strs s.told ++ [.string x])) (hu : Upd (fun k => vt.ownBlock = some k) w w') (hat : vt'.ownBlock = vt.ownBlock ∨ ∃ k, vt'.ownBlock = some k ∧ w.heap.size ≤ k) :
    MemC w0 B g1 g m ⟨s.l, s.f, s.now, s.R, s.parts, s.backs, s.told ++ [x], s.put, s.w⟩ vs vw bp vb vp vk vt' w' := by
  have hsz := h.size
  refine ⟨h.snd.far hu fun k h1 h2 => h.ts h2 h1, h.rcv.far hu fun k h1 h2 => h.tr h2 h1, hu.own h.parts fun k h1 h2 => h.pt h.parts h1 h2, hu.own h.backs fun k h1 h2 => h.pt h.backs h1 h2, ?_, h.pk, ?_, h.ls, h.lw, h.lb, h.k1, h.k2, h.k3, h.upd.then_ hu fun k hk h2 => ?_⟩
  · simp only
    rw [List.length_append, List.length_singleton, show strs (s.told ++ [x]) = strs s.told ++ [.string x] from by simp [strs]]
    exact ho
  · intro k h1 h2
    rcases late_grown hat h1 with e | e
    · exact h.tw k e h2
    · have := h.rcv.row.lt k h2
      omega
  · have := own_base h.told k h2
    omega
/-- a message was told by the receiver -/
theorem MemC.next (h : MemC w0 B g1 g m s vs vw bp vb vp vk vt w) {vw' : Value} (hr : RcvT B g m vw' bp vb ⟨s.R.gap, s.R.F, s.R.whole.tail, s.R.buf, s.R.n⟩ w') (hu : Upd (fun j => j = g) w w') (hat : vw'.ownBlock = vw.ownBlock) :
    MemC w0 B g1 g m ⟨s.l, s.f, s.now, ⟨s.R.gap, s.R.F, s.R.whole.tail, s.R.buf, s.R.n⟩, s.parts, s.backs, s.told, s.put, s.w⟩ vs vw' bp vb vp vk vt w' :=
  h.recv hr (hu.mono fun j _ e => .inl e) (fun k hk => .inl (.inr (.inr (.inl (by rw [← hat]; exact hk))))) (fun k hk => .inl (.inr (.inr (.inr hk)))) _ _
end
end Go.Proofs.Yteaefambkagpbaa.F

-- CarV
namespace Go.Proofs.Yteaefambkagpbaa.F
open Go Go.RowKit Go.Proofs.YteaefambkagpbaaW.PrintWords Go.Proofs.YteaefambkagpbaaW.PrintLast Go.Proofs.YteaefambkagpbaaW.PrintMore Go.Proofs.YteaefambkagpbaaM Go.Proofs.YteaefambkagpbaaR
set_option linter.unusedSimpArgs false
set_option linter.unusedVariables false
set_option maxRecDepth 100000
/-- the messages that are given -/
structure MsgsOk (msgs : List ByteArray) : Prop where
  small : ∀ m ∈ msgs, m.size ≤ 4096
  few : msgs.length ≤ 12
theorem rawP_len : ∀ (L : List ByteArray), (∀ m ∈ L, m.size ≤ 4096) → (rawP L).length ≤ 21 * L.length
  | [], h => by simp [rawP]
  | m :: L, h => by
    have e : rawP (m :: L) = cutP m ++ rawP L := by simp [rawP]
    have h1 := (cutP_len m (h m (by simp))).2
    have h2 := rawP_len L fun x hx => h x (by simp [hx])
    rw [e, List.length_append, List.length_cons]
    omega
theorem MsgsOk.len {msgs : List ByteArray} (h : MsgsOk msgs) (n : Nat) : (allP msgs n).length ≤ 252 := by
  unfold allP
  rw [numP_len]
  have h1 := rawP_len (msgs.take n) fun m hm => h.small m (List.mem_of_mem_take hm)
  have h2 := h.few
  have h3 : (msgs.take n).length ≤ msgs.length := by rw [List.length_take]; omega
  omega
theorem Good.ok {msgs : List ByteArray} {F G S : Nat} {s : CSt} (h : Good msgs F G S s) (hm : MsgsOk msgs) : OkR (s.R.gap + 16) s.R :=
  h.R.ok (by have := h.s8; have := h.fg; omega) (fun i p hp => allP_ok _ _ _ _ hp) (by have := hm.len s.put; omega)
theorem Good.toldLen {msgs : List ByteArray} {F G S : Nat} {s : CSt} (h : Good msgs F G S s) (hm : MsgsOk msgs) : s.told.length + s.R.whole.length ≤ 252 := by
  have hb := (fold_bound ((allP msgs s.put).take G) ([], ⟨#[]⟩, 0) (fun p hp => by
    obtain ⟨i, hi⟩ := List.getElem?_of_mem (List.mem_of_mem_take hp)
    exact allP_ok _ _ i p hi) (by simp) (by simp) (by simp [ByteArray.size])).2.2.2
  rw [h.R.fold] at hb
  have := hm.len s.put
  simp only [List.length_append, List.length_nil, List.length_take] at hb
  omega
theorem Good.fLe {msgs : List ByteArray} {F G S : Nat} {s : CSt} (h : Good msgs F G S s) (hm : MsgsOk msgs) : F ≤ 252 ∧ G ≤ 252 ∧ S ≤ 252 := by
  have h1 := h.fg
  have h2 := h.R.gs
  have h3 := h.R.sl
  have h4 := hm.len s.put
  omega
/-! ### bounds of a run -/
theorem sent_bound (ways : List Way) : ∀ (ps : List Pkt) (s : CSt), (ps.foldl (partC ways) s).parts.length = s.parts.length + ps.length ∧ (ps.foldl (partC ways) s).w = s.w + ps.length ∧ (ps.foldl (partC ways) s).backs = s.backs ∧ (ps.foldl (partC ways) s).now = s.now ∧ (ps.foldl (partC ways) s).put = s.put ∧ (ps.foldl (partC ways) s).l = s.l ∧ (ps.foldl (partC ways) s).f = s.f ∧ (ps.foldl (partC ways) s).told = s.told
  | [], s => ⟨rfl, rfl, rfl, rfl, rfl, rfl, rfl, rfl⟩
  | p :: ps, s => by
    obtain ⟨h1, h2, h3, h4, h5, h6, h7, h8⟩ := sent_bound ways ps (partC ways s p)
    rw [List.foldl_cons]
    refine ⟨?_, ?_, h3, h4, h5, h6, h7, h8⟩
    · rw [h1]; simp [partC]; omega
    · rw [h2]; simp [partC]; omega
theorem putC_same (msgs : List ByteArray) (s : CSt) : (putC msgs s).parts = s.parts ∧ (putC msgs s).backs = s.backs ∧ (putC msgs s).w = s.w ∧ (putC msgs s).now = s.now ∧ (putC msgs s).f = s.f ∧ (putC msgs s).R = s.R ∧ (putC msgs s).told = s.told := by
  unfold putC
  cases msgs[s.put]? with
  | none => exact ⟨rfl, rfl, rfl, rfl, rfl, rfl, rfl⟩
  | some m =>
    simp only
    split <;> exact ⟨rfl, rfl, rfl, rfl, rfl, rfl, rfl⟩
theorem run_bound (msgs : List ByteArray) (ways : List Way) : ∀ t : Nat, (runC msgs ways t).parts.length ≤ 8 * t ∧ (runC msgs ways t).backs.length = t ∧ (runC msgs ways t).w ≤ 9 * t ∧ t ≤ (runC msgs ways t).w ∧ 0 ≤ (runC msgs ways t).now ∧ (runC msgs ways t).now ≤ t
  | 0 => ⟨Nat.le_refl _, rfl, Nat.le_refl _, Nat.le_refl _, Int.le_refl _, Int.le_refl _⟩
  | t + 1 => by
    obtain ⟨h1, h2, h3, h3', h4, h5⟩ := run_bound msgs ways t
    obtain ⟨s, hs⟩ : ∃ s, s = runC msgs ways t := ⟨_, rfl⟩
    obtain ⟨p1, p2, p3, p4, -, -, -⟩ := putC_same msgs s
    obtain ⟨q1, q2, q3, q4, -, -, -, -⟩ := sent_bound ways (outC t (putC msgs s)) (dueC t (putC msgs s))
    have ho : (outC t (putC msgs s)).length ≤ 8 := dueO_len _ _ _
    rw [← hs] at h1 h2 h3 h3' h4 h5
    simp only [runC, roundC, backC, tellC, sentC]
    rw [← hs]
    rw [q1, q2, q3, q4]
    simp only [dueC, p1, p2, p3, p4, List.length_append, List.length_singleton]
    refine ⟨by omega, by omega, by omega, by omega, by omega, by omega⟩
theorem Good.backs_ {msgs : List ByteArray} {F G S : Nat} {s : CSt} (h : Good msgs F G S s) (w : Nat) : Good msgs F G S ⟨s.l, s.f, s.now, s.R, s.parts, s.backs ++ [rcpC s.R], s.told, s.put, w⟩ ∧ ∀ p ∈ s.backs ++ [rcpC s.R], RcpOk s.R p := by
  have hg := h.R.gap
  have hr := rcpC_ok (R := s.R) (by omega) h.gap0
  have hbs : ∀ p ∈ s.backs ++ [rcpC s.R], RcpOk s.R p := by
    intro q hq
    rcases List.mem_append.1 hq with hq | hq
    · exact h.backs q hq
    · rw [List.mem_singleton.1 hq]; exact hr
  exact ⟨⟨h.put, h.f, h.fg, h.s8, h.R, h.gap0, h.lf, h.len, h.sent, h.now0, h.times, h.parts, hbs, h.came⟩, hbs⟩
/-! ### the methods -/
section
variable {w0 : World} {B g1 g m : Nat} {s : CSt} {vs vw bp vb vp vk vt : Value} {w w' : World} {msgs : List ByteArray} {F G S : Nat}
theorem cput_c (h : MemC w0 B g1 g m s vs vw bp vb vp vk vt w) (hG : Good msgs F G S s) (hm : MsgsOk msgs) {x : ByteArray} (hx : msgs[s.put]? = some x) (hB : B ≤ w0.heap.size) :
    Calls Try.prog 22 #[.pointer (some ⟨g1, 0, none⟩), .string x] w (fun e w' => ∃ vs' r, e = .returned (.int .i64 r) ∧ MemC w0 B g1 g m (putC msgs s) vs' vw bp vb vp vk vt w' ∧ ((r = 0 ∧ (putC msgs s).put = s.put + 1) ∨ (r = 5 ∧ (putC msgs s).put = s.put))) := by
  have hx2 := hm.small x (List.mem_of_getElem? hx)
  have hf := hG.fLe hm
  have hff := hG.f
  have hlen := hG.len
  have hcl := cutP_len x hx2
  unfold putC
  rw [hx]
  simp only
  by_cases hc : s.l.length + (cutP x).length ≤ 64
  · rw [if_pos hc]
    refine (sput_c w B g1 vs s.l s.f s.now h.snd x hx2 hc (by omega) (by omega) (Nat.le_trans hB h.size)).mono ?_
    rintro e w' ⟨vs', rfl, hs, hu, hat⟩
    exact ⟨vs', 0, rfl, h.send hs hu hat _ _, .inl ⟨rfl, rfl⟩⟩
  · rw [if_neg hc]
    refine (put_full_c w B g1 vs s.l s.f s.now h.snd x hx2 (by omega) (by omega) (by omega)).mono ?_
    rintro e w' ⟨v, rfl, rfl, hg⟩
    exact ⟨vs, 5, rfl, h.grew hg, .inr ⟨rfl, rfl⟩⟩
theorem cdue_c (h : MemC w0 B g1 g m s vs vw bp vb vp vk vt w) (hG : Good msgs F G S s) (t : Nat) (ht : t ≤ 1000) (hn : s.now ≤ t) :
    Calls Try.prog 24 #[.pointer (some ⟨g1, 0, none⟩), .int .i64 (t : Int)] w (fun e w' => ∃ vo, e = .returned vo ∧ w'.ownsRow w.heap.size 30 5 vo (outC t s).length (pks (outC t s)) ∧ MemC w0 B g1 g m (dueC t s) vs vw bp vb vp vk vt w') := by
  have hn0 := hG.now0
  refine (due_c w B g1 vs s.l s.f s.now t (max s.now t) h.snd rfl (by omega) (by omega) (fun x hx => by have := hG.times x hx; omega) (by have := hG.len; omega)).mono ?_
  rintro e w' ⟨vo, rfl, ho, hs, hu⟩
  exact ⟨vo, rfl, ho, h.send hs hu (.inl rfl) _ _⟩
/-- the state with another receiver -/
def withR (s : CSt) (R : RSt) : CSt := ⟨s.l, s.f, s.now, R, s.parts, s.backs, s.told, s.put, s.w⟩
theorem crt_c (h : MemC w0 B g1 g m s vs vw bp vb vp vk vt w) (hG : Good msgs F G S s) (hm : MsgsOk msgs) {p : Pkt} (hp : ∃ i : Nat, i < S ∧ (allP msgs s.put)[i]? = some p) (hB : B ≤ w0.heap.size) :
    Calls Try.prog 26 #[.pointer (some ⟨g, 0, none⟩), pkV p] w (fun e w' => ∃ b vw' bp' vb', e = .returned (.bool b) ∧ MemC w0 B g1 g m (withR s (takeR s.R p)) vs vw' bp' vb' vp vk vt w' ∧ Upd (rcvS g m vw vb) w w') := by
  obtain ⟨i, hi, hpi⟩ := hp
  have hnum := allP_num _ _ _ _ hpi
  have hok := allP_ok _ _ _ _ hpi
  have hf := hG.fLe hm
  have hg := hG.R.gap
  have h8 := hG.s8
  have hfg := hG.fg
  refine (rtake_c w B g m vw bp vb s.R p (s.R.gap + 16) h.rcv (hG.ok hm) rfl (by omega) hok.1 (right_of p hok (by omega) (by omega)) (by omega) (Nat.le_trans hB h.size)).mono ?_
  rintro e w' ⟨b, vw', bp', vb', rfl, hr, hu, hw, hb⟩
  exact ⟨b, vw', bp', vb', rfl, h.recv hr hu hw hb _ _, hu⟩
theorem cnext_c (h : MemC w0 B g1 g m s vs vw bp vb vp vk vt w) (hl : s.R.whole.length ≤ 1000) :
    Calls Try.prog 21 #[.pointer (some ⟨g, 0, none⟩)] w (fun e w' => ∃ vw', e = .returned (NextV s.R.whole) ∧ MemC w0 B g1 g m (withR s ⟨s.R.gap, s.R.F, s.R.whole.tail, s.R.buf, s.R.n⟩) vs vw' bp vb vp vk vt w') := by
  refine (rnext_c w B g m vw bp vb s.R.gap s.R.F s.R.whole s.R.buf s.R.n h.rcv (by omega)).mono ?_
  rintro e w' ⟨vw', rfl, hr, hu, hat⟩
  exact ⟨vw', rfl, h.next hr hu hat⟩
theorem crec_c (h : MemC w0 B g1 g m s vs vw bp vb vp vk vt w) (hG : Good msgs F G S s) (hm : MsgsOk msgs) :
    Calls Try.prog 27 #[.pointer (some ⟨g, 0, none⟩)] w (Tells w (Is (pkV (rcpC s.R)))) := by
  have hf := hG.fLe hm
  have hg := hG.R.gap
  exact rreceipt_c w B g m vw bp vb s.R.gap s.R.F s.R.whole s.R.buf s.R.n h.rcv (by omega) (by omega)
theorem cst_c (h : MemC w0 B g1 g m s vs vw bp vb vp vk vt w) (hG : Good msgs F G S s) (hm : MsgsOk msgs) {q : Pkt} (hq : RcpOk s.R q) :
    Calls Try.prog 23 #[.pointer (some ⟨g1, 0, none⟩), pkV q] w (fun e w' => ∃ b vs', e = .returned (.bool b) ∧ MemC w0 B g1 g m ⟨(takeS s.l s.f q.f1 q.f4).1, (takeS s.l s.f q.f1 q.f4).2, s.now, s.R, s.parts, s.backs, s.told, s.put, s.w⟩ vs' vw bp vb vp vk vt w') := by
  have hf := hG.fLe hm
  have hg := hG.R.gap
  have hff := hG.f
  have h1 := hq.n0
  have h2 := hq.n1
  have := stake_c w B g1 vs s.l s.f s.now q.f1 q.f4 h.snd h1 (by omega) hq.b0 hq.b1 hq.b2 (by omega) (by omega) (by have := hG.len; omega)
  rw [← hq.f0, ← hq.f2, ← hq.f3] at this
  refine this.mono ?_
  rintro e w' ⟨b, vs', rfl, hs, hu, hat⟩
  exact ⟨b, vs', rfl, h.send hs hu (.inl hat) _ _⟩
end
theorem nth_c (ways : List Way) (A : Option Addr) (c : Nat) (i : Nat) (w : World) (h : Kd.C k73 w A ways.length ways) (hc : ways.length ≤ c) :
    Calls Try.prog 37 #[.slice A ways.length c, .int .i64 (i : Int)] w (Tells w (Is (.agg #[.int .i64 (wayAt ways i).f0, .int .i64 (wayAt ways i).f1]))) := by
  have hf : strongroomlaw26_nth.f ways (i : Int) = some ((wayAt ways i).f0, (wayAt ways i).f1) := by
    unfold strongroomlaw26_nth.f wayAt
    by_cases hi : i < ways.length
    · rw [if_pos (by omega), if_pos (by omega)]
      unfold rd_T73
      rw [Int.toNat_natCast, List.getD_eq_getElem?_getD, List.getD_eq_getElem?_getD, List.getElem?_eq_getElem hi]
      rfl
    · rw [if_neg (by omega), List.getD_eq_getElem?_getD, List.getElem?_eq_none (by omega)]
      rfl
  refine (strongroomlaw26_nth.calls A c ways (i : Int) _ _ w h hc hf).mono ?_
  rintro e w' ⟨rfl, hb⟩
  exact ⟨_, rfl, rfl, hb⟩
/-- a packet of a row -/
theorem row_pk {w : World} {base n c : Nat} {A : Option Addr} {l : List Pkt} (h : w.ownsRow base 30 5 (.slice A n c) n (pks l)) (i : Nat) (p : Pkt) (hp : l[i]? = some p) : ∃ ad, A = some ad ∧ (Value.slice A n c).ownBlock = some ad.block ∧
    w.cell? (ad.add (i * 5)) = some (.bool p.f0) ∧ w.cell? ⟨(ad.add (i * 5)).block, (ad.add (i * 5)).off + 1, none⟩ = some (.int .i64 p.f1) ∧ w.cell? ⟨(ad.add (i * 5)).block, (ad.add (i * 5)).off + 2, none⟩ = some (.bool p.f2) ∧ w.cell? ⟨(ad.add (i * 5)).block, (ad.add (i * 5)).off + 3, none⟩ = some (.string p.f3) ∧ w.cell? ⟨(ad.add (i * 5)).block, (ad.add (i * 5)).off + 4, none⟩ = some (.int .i64 p.f4) := by
  have hlen : ∀ l : List Pkt, (pks l).length = l.length * 5 := by
    intro l
    induction l with
    | nil => rfl
    | cons p l ih => simp [pks, pkc] at *; omega
  have hat : ∀ (l : List Pkt) (i : Nat) (x : Pkt), l[i]? = some x → ∀ j, j < 5 → (pks l)[i * 5 + j]? = (pkc x)[j]? := by
    intro l
    induction l with
    | nil => intro i x h; simp at h
    | cons y l ih =>
      intro i x h j hj
      have e : pks (y :: l) = pkc y ++ pks l := by simp [pks]
      have e5 : (pkc y).length = 5 := rfl
      rw [e]
      cases i with
      | zero =>
        obtain rfl : y = x := by simpa using h
        rw [Nat.zero_mul, Nat.zero_add, List.getElem?_append_left (by omega)]
      | succ i =>
        rw [List.getElem?_append_right (by omega), e5, show (i + 1) * 5 + j - 5 = i * 5 + j from by omega]
        exact ih i x (by simpa using h) j hj
  have hi := (List.getElem?_eq_some_iff.1 hp).1
  have h1 := hlen l
  have h2 := h.1
  obtain ⟨g, o, cap, hv, -, -, -, hcell, -⟩ := (rowO_of_own h).at_ (by omega)
  injection hv with hv1 hv2 hv3
  subst hv1
  have hc : ∀ j, j < 5 → w.cell? ⟨g, o + i * 5 + j, none⟩ = (pkc p)[j]? := fun j hj => by
    rw [← hat l i p hp j hj, ← hcell (i * 5 + j) (by omega)]
    congr 2
    omega
  refine ⟨⟨g, o, none⟩, rfl, rfl, ?_⟩
  have e : (⟨g, o, none⟩ : Addr).add (i * 5) = ⟨g, o + i * 5, none⟩ := by simp [Addr.add]
  rw [e]
  exact ⟨hc 0 (by decide), hc 1 (by decide), hc 2 (by decide), hc 3 (by decide), hc 4 (by decide)⟩
/-- a packet behind a row of packets -/
theorem app_pk (W : World) (base : Nat) (A : Option Addr) (n c : Nat) (l : List Pkt) (p : Pkt) (ho : W.ownsRow base 30 5 (.slice A n c) n (pks l)) (hb : base ≤ W.heap.size) (hl : n ≤ 100000) :
    ∃ v1 w1, (Builtin.append_ #[53, 53] 53 #[.slice A n c, .slice (some ⟨W.heap.size, 0, none⟩) 1 1]).run Try.prog (W.alloc (.cells (pkc p).toArray 30)) = .ok v1 w1 ∧
      w1.ownsRow base 30 5 v1 (n + 1) (pks l ++ pkc p) ∧ Upd (fun k => (Value.slice A n c).ownBlock = some k) W w1 ∧ (v1.ownBlock = (Value.slice A n c).ownBlock ∨ ∃ k, v1.ownBlock = some k ∧ W.heap.size ≤ k) := by
  have hgr : Grew W (W.alloc (.cells (pkc p).toArray 30)) := Grew.alloc _ _
  obtain ⟨v8, w8, hrun, hown8, hgr8, hat⟩ := app_cells (P := Try.prog) (W.alloc (.cells (pkc p).toArray 30)) base 53 30 53 (.agg #[.bool false, .int .i64 0, .bool false, .string ⟨#[]⟩, .int .i64 0]) 5 48 Try.underlying53 infoPk rfl (by decide) (by decide) (.slice A n c) n (pks l) W.heap.size (pkc p) rfl (by intro u hu; simp [pkc] at hu; rcases hu with rfl | rfl | rfl | rfl | rfl <;> rfl) (pw_own_below ho hgr) (Blk.new _ _ _) (Nat.le_trans hb hgr.size) (by omega)
  exact ⟨v8, w8, hrun, hown8, Upd.of_alloc_grown hgr8, hat.imp id fun ⟨k, h1, h2⟩ => ⟨k, h1, Nat.le_trans hgr.size h2⟩⟩
/-- a message behind a row of messages -/
theorem app_msg (W : World) (base : Nat) (A : Option Addr) (n c : Nat) (l : List ByteArray) (x : ByteArray) (ho : W.ownsRow base 9 1 (.slice A n c) n (strs l)) (hb : base ≤ W.heap.size) (hl : n ≤ 100000) :
    ∃ v1 w1, (Builtin.append_ #[40, 40] 40 #[.slice A n c, .slice (some ⟨W.heap.size, 0, none⟩) 1 1]).run Try.prog (W.alloc (.cells #[.string x] 9)) = .ok v1 w1 ∧
      w1.ownsRow base 9 1 v1 (n + 1) (strs l ++ [.string x]) ∧ Upd (fun k => (Value.slice A n c).ownBlock = some k) W w1 ∧ (v1.ownBlock = (Value.slice A n c).ownBlock ∨ ∃ k, v1.ownBlock = some k ∧ W.heap.size ≤ k) := by
  have hgr : Grew W (W.alloc (.cells #[.string x] 9)) := Grew.alloc _ _
  obtain ⟨v8, w8, hrun, hown8, hgr8, hat⟩ := app_cells (P := Try.prog) (W.alloc (.cells #[.string x] 9)) base 40 9 40 (.string ⟨#[]⟩) 1 16 Try.underlying40 infoS16 rfl (by decide) (by decide) (.slice A n c) n (strs l) W.heap.size [.string x] rfl (by intro u hu; simp at hu; rw [hu]; rfl) (pw_own_below ho hgr) (Blk.new _ _ [.string x]) (Nat.le_trans hb hgr.size) (by omega)
  exact ⟨v8, w8, hrun, hown8, Upd.of_alloc_grown hgr8, hat.imp id fun ⟨k, h1, h2⟩ => ⟨k, h1, Nat.le_trans hgr.size h2⟩⟩
end Go.Proofs.Yteaefambkagpbaa.F

-- CarK
namespace Go.Proofs.Yteaefambkagpbaa.F
open Go Go.RowKit Go.Proofs.YteaefambkagpbaaW.PrintWords Go.Proofs.YteaefambkagpbaaW.PrintLast Go.Proofs.YteaefambkagpbaaW.PrintMore Go.Proofs.YteaefambkagpbaaM Go.Proofs.YteaefambkagpbaaR
attribute [local go_sem] max2_int min2_int max_two min_two
set_option linter.unusedSimpArgs false
set_option linter.unusedVariables false
set_option maxRecDepth 100000
theorem str_at {w : World} {A : Option Addr} {n : Nat} {ss : List ByteArray} (h : Kd.C Kd.string w A n ss) (i : Nat) (x : ByteArray) (hx : ss[i]? = some x) : ∃ ad, A = some ad ∧ w.cell? (ad.add i) = some (.string x) := by
  have hi := (List.getElem?_eq_some_iff.1 hx).1
  have h2 := Kd.reads_of_C (d := ByteArray.empty) (h1 := fun _ => rfl) (enc := Value.string) h
  have h3 := h2.1
  obtain ⟨ad, hA, hc⟩ := h2.2.2 (by omega)
  refine ⟨ad, hA, ?_⟩
  have := hc i (by omega)
  rw [List.getD_eq_getElem?_getD, hx] at this
  exact this
def CarriedD (w0 : World) (B g1 g m : Nat) (s : CSt) (e : Ending) (w' : World) : Prop :=
  ∃ vs vw bp vb vp vk vt, e = .returned (.tuple #[vt, .int .i64 (s.put : Int)]) ∧ MemC w0 B g1 g m s vs vw bp vb vp vk vt w'
def slLen : Value → Nat
  | .slice _ n _ => n
  | _ => 0
theorem nextV_eq (ws : List ByteArray) : NextV ws = .tuple #[.string (ws.headD ⟨#[]⟩), .bool (decide (0 < ws.length))] := by
  cases ws <;> rfl
/-- some messages were told -/
def tellS (s : CSt) (td rest : List ByteArray) : CSt := ⟨s.l, s.f, s.now, ⟨s.R.gap, s.R.F, rest, s.R.buf, s.R.n⟩, s.parts, s.backs, td, s.put, s.w⟩
def bl3 (g1 g m : Nat) : Nat → Prop := fun k => k = g1 ∨ k = g ∨ k = m
set_option maxHeartbeats 16000000 in
theorem carried_c (w : World) (B g1 g m : Nat) (msgs : List ByteArray) (ways : List Way) (T : Nat) (Am : Option Addr) (cm : Nat) (Aw : Option Addr) (cw : Nat)
    (hS : SndM B g1 (.slice none 0 0) [] 0 0 w) (hR : RcvT B g m (.slice none 0 0) (.pointer none) (.slice none 0 0) startC.R w) (hB : B ≤ w.heap.size)
    (hM : ∀ wx, Upd (bl3 g1 g m) w wx → Kd.C Kd.string wx Am msgs.length msgs) (hcm : msgs.length ≤ cm) (hW : ∀ wx, Upd (bl3 g1 g m) w wx → Kd.C k73 wx Aw ways.length ways) (hcw : ways.length ≤ cw)
    (hms : MsgsOk msgs) (hwl : ways.length ≤ 100000) (hT : T ≤ 1000) :
    Calls Try.prog 16 #[.pointer (some ⟨g1, 0, none⟩), .pointer (some ⟨g, 0, none⟩), .slice Am msgs.length cm, .slice Aw ways.length cw, .int .i64 (T : Int)] w (CarriedD w B g1 g m (runC msgs ways T)) := by
  have h0 : MemC w B g1 g m (runC msgs ways 0) (.slice none 0 0) (.slice none 0 0) (.pointer none) (.slice none 0 0) (.slice none 0 0) (.slice none 0 0) (.slice none 0 0) w :=
    ⟨hS, hR, World.ownsRow_nil _ _ _ _, World.ownsRow_nil _ _ _ _, World.ownsRow_nil _ _ _ _, fun k hk => by simp [Value.ownBlock] at hk, fun k hk => by simp [Value.ownBlock] at hk, fun k hk => by simp [Value.ownBlock] at hk, fun k hk => by simp [Value.ownBlock] at hk, fun k hk => by simp [Value.ownBlock] at hk,
      hS.cells.lt, hR.cells.lt, hR.map.lt, Upd.refl _ _⟩
  obtain ⟨CR, hCR⟩ : ∃ CR, CR = runC msgs ways := ⟨_, rfl⟩
  have HCR := Lib.hid hCR
  have HMS := Lib.hid hms
  have HB := Lib.hid hB
  have HNT := Lib.hid (fun (i : Nat) (wx : World) (hu : Upd (bl3 g1 g m) w wx) => nth_c ways Aw cw i wx (hW wx hu) hcw)
  have HMM := Lib.hid hM
  obtain ⟨ml, hml⟩ : ∃ ml, ml = msgs.length := ⟨_, rfl⟩
  obtain ⟨wl, hwl2⟩ : ∃ wl, wl = ways.length := ⟨_, rfl⟩
  rw [← hml] at hcm ⊢
  rw [← hml] at HMM
  rw [← hwl2] at HNT hwl hcw ⊢
  have HML := Lib.hid hml
  have hml12 : ml ≤ 12 := by rw [hml]; exact hms.few
  rw [← hCR] at h0 ⊢
  have H0 := Lib.hid h0
  have hz0 : (CR 0).put = 0 ∧ (CR 0).w = 0 := by rw [hCR]; exact ⟨rfl, rfl⟩
  have HZ := Lib.hid hz0
  clear hS hR hB hM hW hms hml hwl2 hCR h0 hz0
  go_enter Try.func16, Try.ntmps16
  go_wp2_with fail
  go_loopw [12, 13, 14, 15, 16, 17] (fun v12 v13 v14 v15 v16 v17 wr => ∃ (t : Nat) (vs vw bp vb : Value), v17 = .int .i64 (t : Int) ∧ t ≤ T ∧ v15 = .int .i64 ((CR t).put : Int) ∧ v16 = .int .i64 ((CR t).w : Int) ∧ MemC w B g1 g m (CR t) vs vw bp vb v13 v14 v12 wr) (fun _ _ _ _ _ v17 _ => T - (intOf v17).toNat)
  case atStart => exact ⟨0, _, _, _, _, rfl, Nat.zero_le _, by rw [HZ.out.1]; rfl, by rw [HZ.out.2]; rfl, H0.out⟩
  case round =>
    obtain ⟨t, vs, vw, bp, vb, rfl, htT, rfl, rfl, hmem⟩ := hrel
    obtain ⟨s, hs⟩ : ∃ s, s = CR t := ⟨_, rfl⟩
    rw [← hs] at hmem ⊢
    obtain ⟨Ap, cp, hvp⟩ := own_slice hmem.parts
    obtain ⟨Ak, ck, hvk⟩ := own_slice hmem.backs
    obtain ⟨At, ct, hvt⟩ := own_slice hmem.told
    obtain ⟨pn, hpn⟩ : ∃ pn, pn = s.parts.length := ⟨_, rfl⟩
    obtain ⟨kn, hkn⟩ : ∃ kn, kn = s.backs.length := ⟨_, rfl⟩
    obtain ⟨tn, htn⟩ : ∃ tn, tn = s.told.length := ⟨_, rfl⟩
    obtain ⟨pu, hpu⟩ : ∃ pu, pu = s.put := ⟨_, rfl⟩
    obtain ⟨wn, hwn⟩ : ∃ wn, wn = s.w := ⟨_, rfl⟩
    rw [← hpn] at hvp
    rw [← hkn] at hvk
    rw [← htn] at hvt
    rw [← hpu, ← hwn]
    subst hvp
    subst hvk
    subst hvt
    have HST := Lib.hid hs
    have HPN := Lib.hid hpn
    have HKN := Lib.hid hkn
    have HTN := Lib.hid htn
    have HPU := Lib.hid hpu
    have HWN := Lib.hid hwn
    have HMEM := Lib.hid hmem
    clear hs hpn hkn htn hpu hwn hmem H0 HZ
    by_cases ht : t < T
    · have d1 : decide ((t : Int) < (T : Int)) = true := decide_eq_true (by omega)
      have d1' : decide (t < T) = true := decide_eq_true ht
      obtain ⟨F, G, S, hG⟩ := Good.run msgs ways t
      rw [← HCR.out, ← HST.out] at hG
      have hbd := run_bound msgs ways t
      rw [← HCR.out, ← HST.out, ← HPN.out, ← HKN.out, ← HWN.out] at hbd
      have HG := Lib.hid hG
      have HBD := Lib.hid hbd
      obtain ⟨s1, hs1⟩ : ∃ s1, s1 = putC msgs s := ⟨_, rfl⟩
      have HS1 := Lib.hid hs1
      have hpul : pu ≤ ml := by rw [HPU.out, HML.out]; exact hG.put
      clear hG hbd hs1
      go_upto_region 7 with fail
      go_cut [42] from 30 to 42 (fun v42 wc => ∃ (fb : Bool) (vs' : Value), v42 = .bool fb ∧ MemC w B g1 g m s1 vs' vw bp vb (.slice Ap pn cp) (.slice Ak kn ck) (.slice At tn ct) wc ∧ s1.put = pu + (if fb = true then 1 else 0))
      case first =>
        by_cases hp : pu < ml
        · have d2 : decide ((pu : Int) < (ml : Int)) = true := decide_eq_true (by omega)
          have d2' : decide (pu < ml) = true := decide_eq_true hp
          obtain ⟨x, hx⟩ : ∃ x, msgs[pu]? = some x := ⟨_, List.getElem?_eq_getElem (by rw [← HML.out]; exact hp)⟩
          obtain ⟨ad, hA, hc⟩ := str_at (HMM.out wr HMEM.out.upd) pu x hx
          subst hA
          have HCP := Lib.hid (cput_c HMEM.out HG.out HMS.out (x := x) (by rw [← HPU.out]; exact hx) HB.out)
          rw [← HS1.out, ← HPU.out] at HCP
          clear hx
          go_wp2_with fail
          refine HCP.out.mono ?_
          rintro e w1 ⟨vs', r, rfl, hm1, hr⟩
          have HM1 := Lib.hid hm1
          clear hm1
          rcases hr with ⟨rfl, hr⟩ | ⟨rfl, hr⟩
          · have HR := Lib.hid hr
            clear hr
            go_wp2_with fail
            go_meet
            case rel => exact ⟨true, vs', rfl, HM1.out, HR.out⟩
          · have HR := Lib.hid hr
            clear hr
            go_wp2_with fail
            go_meet
            case rel => exact ⟨false, vs', rfl, HM1.out, HR.out⟩
        · have d2 : decide ((pu : Int) < (ml : Int)) = false := decide_eq_false (by omega)
          have d2' : decide (pu < ml) = false := decide_eq_false hp
          have hsame := Lib.hid (show s1 = s from by
            rw [HS1.out]; unfold putC
            rw [List.getElem?_eq_none (by rw [← HML.out, ← HPU.out]; omega)])
          go_wp2_with fail
          go_meet
          case rel => exact ⟨false, vs, rfl, by rw [hsame.out]; exact HMEM.out, by rw [hsame.out, HPU.out]; rfl⟩
      case rest =>
        obtain ⟨fb, vs1, rfl, hm1, hp1⟩ := hcut
        obtain ⟨p1, hp1e⟩ : ∃ p1, p1 = s1.put := ⟨_, rfl⟩
        rw [← hp1e] at hp1
        have HM1 := Lib.hid hm1
        have HP1 := Lib.hid hp1
        have HP1E := Lib.hid hp1e
        clear hm1 hp1 hp1e
        go_upto_if 42 with fail
        go_cut [15] from 43 to 44 (fun v15 wk => v15 = .int .i64 (p1 : Int) ∧ wk = wc)
        case first =>
          cases fb with
          | true =>
            have hw : IntKind.i64.wrap ((pu : Int) + 1) = (p1 : Int) := by rw [IntWalk.i64_in _ (by omega)]; have := HP1.out; rw [if_pos rfl] at this; omega
            go_wp2_with fail
            go_meet
            case rel => exact ⟨rfl, rfl⟩
          | false =>
            have he : p1 = pu := by have := HP1.out; rw [if_neg (by decide)] at this; omega
            have HE := Lib.hid he
            clear he
            go_wp2_with fail
            go_meet
            case rel => exact ⟨by rw [HE.out], rfl⟩
        case rest =>
          obtain ⟨rfl, rfl⟩ := hcut
          obtain ⟨ps1, ps2, ps3, ps4, ps5, ps6, ps7⟩ := putC_same msgs s
          rw [← HS1.out] at ps1 ps2 ps3 ps4 ps5 ps6 ps7
          have hG1 : Good msgs F G S s1 := by rw [HS1.out]; exact HG.out.put_
          obtain ⟨S', hSS, -, hG2, hout⟩ := hG1.due (t : Int)
          have hCD := cdue_c HM1.out hG1 t (by omega) (by rw [ps4]; exact HBD.out.2.2.2.2.2)
          obtain ⟨s2, hs2⟩ : ∃ s2, s2 = dueC t s1 := ⟨_, rfl⟩
          obtain ⟨out, hout2⟩ : ∃ out, out = outC t s1 := ⟨_, rfl⟩
          obtain ⟨on, hon⟩ : ∃ on, on = out.length := ⟨_, rfl⟩
          rw [← hs2] at hG2
          rw [← hout2] at hout
          rw [← hs2, ← hout2, ← hon] at hCD
          have hon8 : on ≤ 8 := by rw [hon, hout2]; exact dueO_len _ _ _
          have HG2 := Lib.hid hG2
          have HOUT := Lib.hid hout
          have HS2 := Lib.hid hs2
          have HOUT2 := Lib.hid hout2
          have HON := Lib.hid hon
          have HCD := Lib.hid hCD
          have HPS := Lib.hid (show s2.parts = s.parts ∧ s2.backs = s.backs ∧ s2.w = s.w ∧ s2.put = s1.put ∧ s2.told = s.told by rw [hs2]; exact ⟨ps1, ps2, ps3, rfl, ps7⟩)
          have HMP := Lib.hid HM1.out.parts
          clear hG1 hG2 hout hs2 hout2 hon hCD ps1 ps2 ps3 ps4 ps5 ps6 ps7 HM1
          go_wp2_with fail
          refine HCD.out.mono ?_
          rintro e w2 ⟨vo, rfl, ho, hm2⟩
          obtain ⟨Ao, co, rfl⟩ := own_slice ho
          have HO2 := Lib.hid ho
          have HM2 := Lib.hid hm2
          clear HCD ho hm2
          go_wp2_with fail
          go_loopw [13, 16, 19] (fun v13 v16 v19 wr => ∃ (i : Nat) (vw bp vb : Value), v19 = .int .i64 (i : Int) ∧ i ≤ on ∧ v16 = .int .i64 ((wn + i : Nat) : Int) ∧ MemC w B g1 g m ((out.take i).foldl (partC ways) s2) vs1 vw bp vb v13 (.slice Ak kn ck) (.slice At tn ct) wr ∧ wr.ownsRow wc.heap.size 30 5 (.slice Ao on co) on (pks out) ∧ (∀ k, v13.ownBlock = some k → (Value.slice Ao on co).ownBlock ≠ some k)) (fun _ _ v19 _ => on - (intOf v19).toNat)
          case atStart => exact ⟨0, _, _, _, rfl, Nat.zero_le _, rfl, HM2.out, HO2.out, fun k h1 h2 => by
            have := own_base HO2.out k h2
            have := own_lt HMP.out k h1
            omega⟩
          case round =>
            obtain ⟨i, vw2, bp2, vb2, rfl, hi, rfl, hm3, hvo, hne⟩ := hrel
            obtain ⟨si, hsi⟩ : ∃ si, si = (out.take i).foldl (partC ways) s2 := ⟨_, rfl⟩
            rw [← hsi] at hm3
            obtain ⟨Gi, -, hGi, -⟩ := Good.sents ways (out.take i) s2 G HG2.out (fun p hp => by
              obtain ⟨j, h1, h2⟩ := HOUT.out p (List.mem_of_mem_take hp)
              exact ⟨j, h1, by rw [HPS.out.2.2.2.1]; exact h2⟩)
            rw [← hsi] at hGi
            obtain ⟨sb1, sb2, sb3, sb4, sb5, sb6, sb7, sb8⟩ := sent_bound ways (out.take i) s2
            rw [← hsi] at sb1 sb2 sb3 sb5 sb8
            have hti : (out.take i).length = i := by rw [List.length_take, ← HON.out]; omega
            rw [hti] at sb1 sb2
            obtain ⟨Aq, cq, hvp⟩ := own_slice hm3.parts
            obtain ⟨qn, hqn⟩ : ∃ qn, qn = si.parts.length := ⟨_, rfl⟩
            rw [← hqn] at hvp
            subst hvp
            obtain ⟨wi, hwi⟩ : ∃ wi, wi = wn + i := ⟨_, rfl⟩
            rw [← hwi]
            have hwsi : si.w = wi := by rw [sb2, HPS.out.2.2.1, ← HWN.out, hwi]
            have hqb : qn ≤ 9000 := by
              have := HBD.out.1
              rw [hqn, sb1, HPS.out.1, ← HPN.out]; omega
            have hwb : wi ≤ 10000 := by
              have := HBD.out.2.2.1
              omega
            have HSI := Lib.hid hsi
            have HGI := Lib.hid hGi
            have HM3 := Lib.hid hm3
            have HVO := Lib.hid hvo
            have HNE := Lib.hid hne
            have HQN := Lib.hid hqn
            have HWI := Lib.hid hwi
            have HWSI := Lib.hid hwsi
            have HSB := Lib.hid (And.intro sb3 (And.intro sb5 sb8))
            clear hsi hGi hm3 hvo hne hqn hwi hwsi sb1 sb2 sb3 sb4 sb5 sb6 sb7 sb8 hti HM2 HO2
            by_cases hlt : i < on
            ·
              --A{
              have e1 : decide ((i : Int) < (on : Int)) = true := decide_eq_true (by omega)
              have e1' : decide (i < on) = true := decide_eq_true hlt
              have e1'' : (i : Int) < (on : Int) := by omega
              obtain ⟨p, hp⟩ : ∃ p, out[i]? = some p := ⟨_, List.getElem?_eq_getElem (by rw [← HON.out]; exact hlt)⟩
              obtain ⟨f0, hf0⟩ : ∃ f0, f0 = (wayAt ways wi).f0 := ⟨_, rfl⟩
              obtain ⟨f1, hf1⟩ : ∃ f1, f1 = (wayAt ways wi).f1 := ⟨_, rfl⟩
              have HCN := Lib.hid (HNT.out wi wr HM3.out.upd)
              rw [← hf0, ← hf1] at HCN
              have HF := Lib.hid (And.intro hf0 hf1)
              have HP := Lib.hid hp
              have hw1 : IntKind.i64.wrap ((wi : Int) + 1) = ((wi + 1 : Nat) : Int) := by rw [IntWalk.i64_in _ (by omega)]; omega
              clear hf0 hf1 hp
              go_upto_region 13 with fail
              go_upto_region 14 with (first | refine HCN.out.mono ?_ | fail)
              rintro e w3 ⟨_, rfl, rfl, hg3⟩
              go_upto_region 14 with fail
              obtain ⟨W4, hW4⟩ : ∃ W4, W4 = w3.alloc (.cells #[.int .i64 f0, .int .i64 f1] 73) := ⟨_, rfl⟩
              obtain ⟨g20, hg20⟩ : ∃ g20, g20 = w3.heap.size := ⟨_, rfl⟩
              rw [← hW4, ← hg20]
              have hb20 : Blk W4 g20 73 [.int .i64 f0, .int .i64 f1] := by rw [hW4, hg20]; exact Blk.new _ _ _
              have hg4 : Grew wr W4 := by rw [hW4]; exact Grew.trans hg3 (Grew.alloc _ _)
              have hm4 := HM3.out.grew hg4
              have hvo4 := pw_own_below HVO.out hg4
              obtain ⟨ad, hA, had, k0, k1, k2, k3, k4⟩ := row_pk hvo4 i p HP.out
              subst hA
              obtain ⟨p0, p1_, p2, p3, p4⟩ := p
              simp only at k0 k1 k2 k3 k4
              obtain ⟨v8, w5, hrun, hown5, hu5, hat5⟩ := app_pk W4 w.heap.size Aq qn cq si.parts ⟨p0, p1_, p2, p3, p4⟩ (by have := hm4.parts; rw [← HQN.out] at this; exact this) hm4.size (by omega)
              have hm5 := hm4.part (p := ⟨p0, p1_, p2, p3, p4⟩) (by rw [← HQN.out]; exact hown5) hu5 hat5 (si.w + 1)
              have hb5 : Blk w5 g20 73 [.int .i64 f0, .int .i64 f1] := hb20.upd hu5 (fun e => by
                have h1 := own_tag hm4.parts e
                have h2 := hb20.tag
                rw [h1] at h2
                revert h2
                decide)
              have hvo5 := hu5.own hvo4 (fun k h1 h2 => HNE.out k h2 h1)
              have hne5 : ∀ k, v8.ownBlock = some k → (Value.slice (some ad) on co).ownBlock ≠ some k := by
                intro k h1 h2
                rcases late_grown hat5 h1 with e | e
                · exact HNE.out k e h2
                · have := own_lt hvo4 k h2
                  omega
              have HRUN := Lib.hid hrun
              have HM5 := Lib.hid hm5
              have HB5 := Lib.hid hb5
              have HVO5 := Lib.hid hvo5
              have HNE5 := Lib.hid hne5
              have HG20 := Lib.hid hg20
              have HW4 := Lib.hid hW4
              clear hW4 hg20 hb20 hg4 hm4 hvo4 had hrun hown5 hu5 hat5 hm5 hb5 hvo5 hne5 hg3
              go_upto_region 16 with (at_builtin; refine wpList_app (by rfl) (.tmp 59) (.tmp 64) 53 (by rfl) (by rfl) (by rfl) HRUN.out ?_)
              have hpi : ∃ j : Nat, j < S' ∧ (allP msgs si.put)[j]? = some (⟨p0, p1_, p2, p3, p4⟩ : Pkt) := by
                obtain ⟨j, h1, h2⟩ := HOUT.out _ (List.mem_of_getElem? HP.out)
                exact ⟨j, h1, by rw [HSB.out.2.1, HPS.out.2.2.2.1]; exact h2⟩
              obtain ⟨P, hPe⟩ : ∃ P : Pkt, P = ⟨p0, p1_, p2, p3, p4⟩ := ⟨_, rfl⟩
              rw [← hPe] at hpi
              have hps : ∀ q ∈ si.parts ++ [P], ∃ j : Nat, j < S' ∧ (allP msgs si.put)[j]? = some q := by
                intro q hq
                rcases List.mem_append.1 hq with hq | hq
                · exact HGI.out.parts q hq
                · rw [List.mem_singleton.1 hq]; exact hpi
              obtain ⟨sA, hsA⟩ : ∃ sA : CSt, sA = ⟨si.l, si.f, si.now, si.R, si.parts ++ [P], si.backs, si.told, si.put, si.w + 1⟩ := ⟨_, rfl⟩
              have hGA : Good msgs F Gi S' sA := by rw [hsA]; exact HGI.out.rcv (Nat.le_refl _) HGI.out.R HGI.out.gap0 (fun _ h => h) (si.parts ++ [P]) hps (si.w + 1)
              have hmA : MemC w B g1 g m sA vs1 vw2 bp2 vb2 v8 (.slice Ak kn ck) (.slice At tn ct) w5 := by rw [hsA, hPe]; exact HM5.out
              have hRA : sA.R = si.R := by rw [hsA]
              have hPA : sA.parts = si.parts ++ [P] := by rw [hsA]
              have hUA : sA.put = si.put := by rw [hsA]
              have hFIN : ∀ R', wayR (wayAt ways wi) sA.parts P sA.R = R' → (out.take (i + 1)).foldl (partC ways) s2 = withR sA R' := by
                intro R' hR'
                rw [List.take_add_one, HP.out, List.foldl_append, ← HSI.out]
                show partC ways si _ = _
                rw [← hR', ← hPe, hsA]
                unfold partC withR
                rw [HWSI.out]
              obtain ⟨A3, c3, hv8⟩ := own_slice hmA.parts
              obtain ⟨qn3, hqn3⟩ : ∃ qn3, qn3 = sA.parts.length := ⟨_, rfl⟩
              rw [← hqn3] at hv8
              subst hv8
              have hq3 : qn3 = qn + 1 := by rw [hqn3, hPA, List.length_append, List.length_singleton, ← HQN.out]
              have HFIN := Lib.hid hFIN
              have HGA := Lib.hid hGA
              have HMA := Lib.hid hmA
              have HRA := Lib.hid hRA
              have HPA := Lib.hid hPA
              have HPE := Lib.hid hPe
              have HPI := Lib.hid (show ∃ j : Nat, j < S' ∧ (allP msgs sA.put)[j]? = some P from by rw [hUA]; exact hpi)
              have HPS2 := Lib.hid (show ∀ q ∈ sA.parts, ∃ j : Nat, j < S' ∧ (allP msgs sA.put)[j]? = some q from by rw [hPA, hUA]; exact hps)
              have HQ3 := Lib.hid hq3
              have HQN3 := Lib.hid hqn3
              have q20 := HB5.out.at_ 0
              have q21 := HB5.out.at_ 1
              simp only [List.getElem?_cons_zero, List.getElem?_cons_succ] at q20 q21
              obtain ⟨ad', hA', had, k0, k1, k2, k3, k4⟩ := row_pk HVO5.out i _ HP.out
              injection hA' with hA'
              subst hA'
              simp only at k0 k1 k2 k3 k4
              have hwi1 : IntKind.i64.wrap ((i : Int) + 1) = (i : Int) + 1 := IntWalk.i64_in _ (by omega)
              clear hpi hPe hps hsA hGA hmA hRA hPA hUA hFIN hqn3 hq3 had HM5 HB5
              by_cases c1 : f0 = 1
              · have hfin := Lib.hid (HFIN.out sA.R (by unfold wayR; rw [if_pos (by rw [← HF.out.1]; exact c1)]))
                subst c1
                go_wp2_with fail
                go_roundw
                case rel => exact ⟨i + 1, vw2, bp2, vb2, by simp, by omega, by rw [HWI.out]; simp; omega, by rw [hfin.out]; exact HMA.out, HVO5.out, HNE5.out⟩
                case measure => simp [intOf]; omega
              · have c1a : (f0 == (1 : Int)) = false := by simp [c1]
                have c1b : decide (f0 = 1) = false := decide_eq_false c1
                by_cases c2 : f0 = 2
                · have hfin := Lib.hid (HFIN.out (takeR (takeR sA.R P) P) (by unfold wayR; rw [if_neg (by rw [← HF.out.1]; exact c1), if_pos (by rw [← HF.out.1]; exact c2)]))
                  have hct := crt_c HMA.out HGA.out HMS.out HPI.out HB.out
                  have hpkv : pkV P = .agg #[.bool p0, .int .i64 p1_, .bool p2, .string p3, .int .i64 p4] := by rw [HPE.out]; rfl
                  rw [hpkv] at hct
                  have HCT := Lib.hid hct
                  have HPV := Lib.hid hpkv
                  obtain ⟨j1, hj1, hpj1⟩ := HPI.out
                  obtain ⟨Gb, gb1, gb2, gb3, gb4, -⟩ := HGA.out.tk hj1 hpj1
                  have HGB := Lib.hid (HGA.out.rcv gb1 gb2 gb3 gb4 sA.parts HPS2.out sA.w)
                  clear hct hpkv hj1 hpj1 gb1 gb2 gb3 gb4 c1 c1a c1b
                  subst c2
                  go_wp2_with fail
                  refine HCT.out.mono ?_
                  rintro e w6 ⟨b6, vw6, bp6, vb6, rfl, hm6, hu6⟩
                  have HM6 := Lib.hid hm6
                  have HVO6 := Lib.hid (hu6.own HVO5.out (fun k h1 h2 => HMA.out.pr HVO5.out h1 h2))
                  have hct2 := crt_c HM6.out HGB.out HMS.out (p := P) HPI.out HB.out
                  rw [HPV.out] at hct2
                  have HCT2 := Lib.hid hct2
                  clear hm6 hu6 hct2 HCT k0 k1 k2 k3 k4
                  obtain ⟨ad', hA', had, k0, k1, k2, k3, k4⟩ := row_pk HVO6.out i _ HP.out
                  injection hA' with hA'
                  subst hA'
                  simp only at k0 k1 k2 k3 k4
                  clear had
                  go_wp2_with fail
                  refine HCT2.out.mono ?_
                  rintro e w7 ⟨b7, vw7, bp7, vb7, rfl, hm7, hu7⟩
                  have HM7 := Lib.hid hm7
                  have HVO7 := Lib.hid (hu7.own HVO6.out (fun k h1 h2 => HM6.out.pr HVO6.out h1 h2))
                  clear hm7 hu7
                  go_wp2_with fail
                  go_roundw
                  case rel => exact ⟨i + 1, vw7, bp7, vb7, by simp, by omega, by rw [HWI.out]; simp; omega, by rw [hfin.out]; exact HM7.out, HVO7.out, HNE5.out⟩
                  case measure => simp [intOf]; omega
                · have c2a : (f0 == (2 : Int)) = false := by simp [c2]
                  have c2b : decide (f0 = 2) = false := decide_eq_false c2
                  by_cases c3 : f0 = 3
                  · by_cases c4 : 0 ≤ f1
                    · obtain ⟨j, hj⟩ : ∃ j, j = (f1 % (sA.parts.length : Int)).toNat := ⟨_, rfl⟩
                      have hl0 : 0 < sA.parts.length := by rw [← HQN3.out, HQ3.out]; omega
                      obtain ⟨Q, hQ⟩ : ∃ Q, Q = sA.parts.getD j zPk := ⟨_, rfl⟩
                      have hmem := getD_mem sA.parts f1 zPk hl0
                      rw [← hj, ← hQ] at hmem
                      have e1 := Int.emod_nonneg f1 (show (sA.parts.length : Int) ≠ 0 by omega)
                      have e2 := Int.emod_lt_of_pos f1 (show (0 : Int) < sA.parts.length by omega)
                      have hjl : j < sA.parts.length := by omega
                      have hQj : sA.parts[j]? = some Q := by
                        rw [hQ, List.getD_eq_getElem?_getD, List.getElem?_eq_getElem hjl]; rfl
                      have hmod : Int.tmod f1 (qn3 : Int) = (j : Int) := by rw [HQN3.out, Int.tmod_eq_emod_of_nonneg c4]; omega
                      have hmw : IntKind.i64.wrap (j : Int) = (j : Int) := IntWalk.i64_in _ (by have := HQ3.out; have := HQN3.out; omega)
                      have hfin := Lib.hid (HFIN.out (takeR sA.R Q) (by unfold wayR; rw [if_neg (by rw [← HF.out.1]; exact c1), if_neg (by rw [← HF.out.1]; exact c2), if_pos (by rw [← HF.out.1]; exact c3), if_pos (by rw [← HF.out.2]; exact c4), ← HF.out.2, ← hj, ← hQ]))
                      have hct := crt_c HMA.out HGA.out HMS.out (p := Q) (HPS2.out Q hmem) HB.out
                      obtain ⟨Q0, Q1, Q2, Q3, Q4⟩ := Q
                      simp only [pkV] at hct
                      have HCT := Lib.hid hct
                      have hrow := HMA.out.parts
                      rw [← HQN3.out] at hrow
                      obtain ⟨ad2, hA2, had2, m0, m1, m2, m3, m4⟩ := row_pk hrow j _ hQj
                      subst hA2
                      simp only at m0 m1 m2 m3 m4
                      have hjq : j < qn3 := by rw [HQN3.out]; exact hjl
                      have x1 : decide ((j : Int) < (qn3 : Int)) = true := decide_eq_true (by omega)
                      have x2 : decide (j < qn3) = true := decide_eq_true hjq
                      have x3 : (j : Int) < (qn3 : Int) := by omega
                      have x4 : ¬ qn3 = 0 := by omega
                      have x5 : ¬ (qn3 : Int) = 0 := by omega
                      have x6 : ((qn3 : Int) == 0) = false := by simp [x4]
                      have c4a : decide (0 ≤ f1) = true := decide_eq_true c4
                      have H4 := Lib.hid c4
                      clear hl0 hQ hmem e1 e2 hjl hQj hct hrow had2 c1 c2 c1a c1b c2a c2b hj c4
                      subst c3
                      go_wp2_with fail
                      refine HCT.out.mono ?_
                      rintro e w6 ⟨b6, vw6, bp6, vb6, rfl, hm6, hu6⟩
                      have HM6 := Lib.hid hm6
                      have HVO6 := Lib.hid (hu6.own HVO5.out (fun k h1 h2 => HMA.out.pr HVO5.out h1 h2))
                      clear hm6 hu6
                      go_wp2_with fail
                      go_roundw
                      case rel => exact ⟨i + 1, vw6, bp6, vb6, by simp, by omega, by rw [HWI.out]; simp; omega, by rw [hfin.out]; exact HM6.out, HVO6.out, HNE5.out⟩
                      case measure => simp [intOf]; omega
                    · have hfin := Lib.hid (HFIN.out sA.R (by unfold wayR; rw [if_neg (by rw [← HF.out.1]; exact c1), if_neg (by rw [← HF.out.1]; exact c2), if_pos (by rw [← HF.out.1]; exact c3), if_neg (by rw [← HF.out.2]; exact c4)]))
                      have c4a : decide (0 ≤ f1) = false := decide_eq_false c4
                      clear c1 c2 c1a c1b c2a c2b
                      subst c3
                      go_wp2_with fail
                      go_roundw
                      case rel => exact ⟨i + 1, vw2, bp2, vb2, by simp, by omega, by rw [HWI.out]; simp; omega, by rw [hfin.out]; exact HMA.out, HVO5.out, HNE5.out⟩
                      case measure => simp [intOf]; omega
                  · have c3a : (f0 == (3 : Int)) = false := by simp [c3]
                    have c3b : decide (f0 = 3) = false := decide_eq_false c3
                    have hfin := Lib.hid (HFIN.out (takeR sA.R P) (by unfold wayR; rw [if_neg (by rw [← HF.out.1]; exact c1), if_neg (by rw [← HF.out.1]; exact c2), if_neg (by rw [← HF.out.1]; exact c3)]))
                    have hct := crt_c HMA.out HGA.out HMS.out HPI.out HB.out
                    have hpkv : pkV P = .agg #[.bool p0, .int .i64 p1_, .bool p2, .string p3, .int .i64 p4] := by rw [HPE.out]; rfl
                    rw [hpkv] at hct
                    have HCT := Lib.hid hct
                    clear hct hpkv
                    go_wp2_with fail
                    refine HCT.out.mono ?_
                    rintro e w6 ⟨b6, vw6, bp6, vb6, rfl, hm6, hu6⟩
                    have HM6 := Lib.hid hm6
                    have HVO6 := Lib.hid (hu6.own HVO5.out (fun k h1 h2 => HMA.out.pr HVO5.out h1 h2))
                    clear hm6 hu6
                    go_wp2_with fail
                    go_roundw
                    case rel => exact ⟨i + 1, vw6, bp6, vb6, by simp, by omega, by rw [HWI.out]; simp; omega, by rw [hfin.out]; exact HM6.out, HVO6.out, HNE5.out⟩
                    case measure => simp [intOf]; omega
              --A}
            · have e1 : decide ((i : Int) < (on : Int)) = false := decide_eq_false (by omega)
              have e1' : decide (i < on) = false := decide_eq_false hlt
              have hsent : si = sentC ways t s1 := by
                rw [HSI.out, List.take_of_length_le (by rw [← HON.out]; omega), HOUT2.out, HS2.out]
                rfl
              have HSENT := Lib.hid hsent
              have hcx := cnext_c HM3.out (by have := HGI.out.toldLen HMS.out; omega)
              rw [nextV_eq] at hcx
              have HCX := Lib.hid hcx
              have HTL := Lib.hid (HGI.out.toldLen HMS.out)
              have HTN2 := Lib.hid (show tn = si.told.length by rw [HSB.out.2.2, HPS.out.2.2.2.2]; exact HTN.out)
              clear hsent hcx
              go_wp2_with fail
              refine HCX.out.mono ?_
              rintro e w7 ⟨vw7, rfl, hm7⟩
              have HM7 := Lib.hid (show MemC w B g1 g m (tellS si si.told si.R.whole.tail) vs1 vw7 bp2 vb2 (.slice Aq qn cq) (.slice Ak kn ck) (.slice At tn ct) w7 from hm7)
              clear hm7
              go_wp2_with fail
              go_loopw [12, 21, 22] (fun v12 v21 v22 wr => ∃ (td ws : List ByteArray) (vw : Value), v21 = .string (ws.headD ⟨#[]⟩) ∧ v22 = .bool (decide (0 < ws.length)) ∧ td ++ ws = si.told ++ si.R.whole ∧ MemC w B g1 g m (tellS si td ws.tail) vs1 vw bp2 vb2 (.slice Aq qn cq) (.slice Ak kn ck) v12 wr) (fun v12 _ _ _ => 1000 - slLen v12)
              case atStart => exact ⟨si.told, si.R.whole, vw7, by simp [List.headD_eq_head?_getD], rfl, rfl, HM7.out⟩
              case round =>
                obtain ⟨td, ws, vw8, rfl, rfl, hcat, hm8⟩ := hrel
                obtain ⟨At2, ct2, hvt⟩ := own_slice hm8.told
                obtain ⟨tn2, htn2⟩ : ∃ tn2, tn2 = td.length := ⟨_, rfl⟩
                replace hvt := hvt.trans (show Value.slice At2 td.length ct2 = Value.slice At2 tn2 ct2 by rw [htn2])
                subst hvt
                have HCAT := Lib.hid hcat
                have HM8 := Lib.hid hm8
                have HTN3 := Lib.hid htn2
                have hb2 : tn2 ≤ 252 := by
                  have h1 := congrArg List.length hcat
                  rw [List.length_append, List.length_append] at h1
                  have := HTL.out
                  omega
                clear hcat hm8 htn2 HM7
                cases ws with
                | nil =>
                  simp only [List.length_nil, List.headD_nil, Nat.lt_irrefl, decide_false]
                  obtain ⟨s4, hs4⟩ : ∃ s4, s4 = tellC si := ⟨_, rfl⟩
                  have hte : tellS si td [] = s4 := by
                    have h1 := HCAT.out
                    rw [List.append_nil] at h1
                    rw [hs4, h1]
                    rfl
                  have hm4 := HM8.out
                  rw [show ([] : List ByteArray).tail = [] from rfl, hte] at hm4
                  have hG4 : Good msgs F Gi S' s4 := by rw [hs4]; exact HGI.out.tell
                  have hf4 : s4.parts = si.parts ∧ s4.backs = si.backs ∧ s4.put = si.put ∧ s4.w = si.w := by rw [hs4]; exact ⟨rfl, rfl, rfl, rfl⟩
                  have hcr : CR (t + 1) = backC ways s4 := by rw [HCR.out, hs4, HSENT.out, HS1.out, HST.out, HCR.out]; rfl
                  have hrc := crec_c hm4 hG4 HMS.out
                  obtain ⟨RB, hRB⟩ : ∃ RB : Pkt, RB = rcpC s4.R := ⟨_, rfl⟩
                  have hGB := hG4.backs_ (s4.w + 1)
                  rw [← hRB] at hrc hGB
                  have HS4 := Lib.hid hs4
                  have HM4 := Lib.hid hm4
                  have HGB := Lib.hid hGB
                  have HF4 := Lib.hid hf4
                  have HCRT := Lib.hid hcr
                  have HRB := Lib.hid hRB
                  obtain ⟨B0, B1, B2, B3, B4⟩ := RB
                  simp only [pkV] at hrc
                  have HRC := Lib.hid hrc
                  have hkb : kn ≤ 1000 := by have := HBD.out.2.1; omega
                  have hkl : kn = s4.backs.length := by rw [HF4.out.2.1, HSB.out.1, HPS.out.2.1]; exact HKN.out
                  have HKL := Lib.hid hkl
                  clear hs4 hte hm4 hG4 hf4 hcr hrc hRB hGB hkl HM8
                  go_wp2_with fail
                  refine HRC.out.mono ?_
                  rintro e w10 ⟨_, rfl, rfl, hg10⟩
                  go_upto_region 30 with fail
                  obtain ⟨W11, hW11⟩ : ∃ W11, W11 = w10.alloc (.cells #[.bool B0, .int .i64 B1, .bool B2, .string B3, .int .i64 B4] 30) := ⟨_, rfl⟩
                  obtain ⟨g23, hg23⟩ : ∃ g23, g23 = w10.heap.size := ⟨_, rfl⟩
                  rw [← hW11, ← hg23]
                  have hb23 : Blk W11 g23 30 [.bool B0, .int .i64 B1, .bool B2, .string B3, .int .i64 B4] := by rw [hW11, hg23]; exact Blk.new _ _ _
                  have hm11 := HM4.out.grew (Grew.trans hg10 (show Grew w10 W11 by rw [hW11]; exact Grew.alloc _ _))
                  have hlk := own_lt (HM4.out.grew hg10).backs
                  obtain ⟨v12, w12, hrun, hown12, hu12, hat12⟩ := app_pk W11 w.heap.size Ak kn ck s4.backs ⟨B0, B1, B2, B3, B4⟩ (by have := hm11.backs; rw [← HKL.out] at this; exact this) hm11.size (by omega)
                  have hm12 := hm11.back (p := ⟨B0, B1, B2, B3, B4⟩) (by rw [← HKL.out]; exact hown12) hu12 hat12 (s4.w + 1)
                  have hb12 := hb23.upd hu12 (fun e => by have h1 := hlk _ e; omega)
                  obtain ⟨A12, c12, hv12⟩ := own_slice hown12
                  obtain ⟨kn2, hkn2⟩ : ∃ kn2, kn2 = kn + 1 := ⟨_, rfl⟩
                  rw [← hkn2] at hv12
                  subst hv12
                  have r0 := hb23.at_ 0
                  have r1 := hb23.at_ 1
                  have r2 := hb23.at_ 2
                  have r3 := hb23.at_ 3
                  have r4 := hb23.at_ 4
                  simp only [List.getElem?_cons_zero, List.getElem?_cons_succ] at r0 r1 r2 r3 r4
                  obtain ⟨f0, hf0⟩ : ∃ f0, f0 = (wayAt ways wi).f0 := ⟨_, rfl⟩
                  obtain ⟨f1, hf1⟩ : ∃ f1, f1 = (wayAt ways wi).f1 := ⟨_, rfl⟩
                  have hcn := HNT.out wi w12 hm12.upd
                  rw [← hf0, ← hf1] at hcn
                  have HCN := Lib.hid hcn
                  have HF := Lib.hid (And.intro hf0 hf1)
                  have HRUN := Lib.hid hrun
                  have HM12 := Lib.hid hm12
                  have HB12 := Lib.hid hb12
                  have HKN2 := Lib.hid hkn2
                  have hw1 : IntKind.i64.wrap ((wi : Int) + 1) = ((wi + 1 : Nat) : Int) := by rw [IntWalk.i64_in _ (by omega)]; omega
                  clear hf0 hf1 hcn hrun hm12 hb12 hown12 hu12 hat12 hW11 hg23 hb23 hm11 hlk hg10 hkn2
                  go_upto_region 31 with (at_builtin; refine wpList_app (by rfl) (.tmp 122) (.tmp 124) 53 (by rfl) (by rfl) (by rfl) HRUN.out ?_)
                  clear r0 r1 r2 r3 r4
                  go_upto_region 33 with (first | refine HCN.out.mono ?_ | fail)
                  rintro e w13 ⟨_, rfl, rfl, hg13⟩
                  go_upto_region 33 with fail
                  obtain ⟨W14, hW14⟩ : ∃ W14, W14 = w13.alloc (.cells #[.int .i64 f0, .int .i64 f1] 73) := ⟨_, rfl⟩
                  obtain ⟨g24, hg24⟩ : ∃ g24, g24 = w13.heap.size := ⟨_, rfl⟩
                  rw [← hW14, ← hg24]
                  have hb24 : Blk W14 g24 73 [.int .i64 f0, .int .i64 f1] := by rw [hW14, hg24]; exact Blk.new _ _ _
                  have hg14 : Grew w12 W14 := by rw [hW14]; exact Grew.trans hg13 (Grew.alloc _ _)
                  obtain ⟨sB, hsB⟩ : ∃ sB : CSt, sB = ⟨s4.l, s4.f, s4.now, s4.R, s4.parts, s4.backs ++ [⟨B0, B1, B2, B3, B4⟩], s4.told, s4.put, s4.w + 1⟩ := ⟨_, rfl⟩
                  have hmB : MemC w B g1 g m sB vs1 vw8 bp2 vb2 (.slice Aq qn cq) (.slice A12 kn2 c12) (.slice At2 tn2 ct2) W14 := by rw [hsB]; exact HM12.out.grew hg14
                  have hGB : Good msgs F Gi S' sB := by rw [hsB]; exact HGB.out.1
                  have hok : ∀ p ∈ sB.backs, RcpOk sB.R p := by rw [hsB]; exact HGB.out.2
                  have hbB : sB.backs = s4.backs ++ [⟨B0, B1, B2, B3, B4⟩] := by rw [hsB]
                  have hkB : kn2 = sB.backs.length := by rw [hbB, List.length_append, List.length_singleton, ← HKL.out]; exact HKN2.out
                  have hput : (CR (t + 1)).put = p1 := by rw [HCRT.out]; show s4.put = p1; rw [HF4.out.2.2.1, HSB.out.2.1, HPS.out.2.2.2.1]; exact HP1E.out.symm
                  have hwwt : (CR (t + 1)).w = wi + 1 := by rw [HCRT.out]; show s4.w + 1 = wi + 1; rw [HF4.out.2.2.2, HWSI.out]
                  have hpick : ∀ o, pickB (wayAt ways wi) sB.backs ⟨B0, B1, B2, B3, B4⟩ = o → CR (t + 1) = ⟨(giveS o sB.l sB.f).1, (giveS o sB.l sB.f).2, sB.now, sB.R, sB.parts, sB.backs, sB.told, sB.put, sB.w⟩ := by
                    intro o ho
                    rw [HCRT.out, ← ho, hsB]
                    unfold backC
                    rw [← HRB.out, HF4.out.2.2.2, HWSI.out]
                  have z0 := hb24.at_ 0
                  have z1 := hb24.at_ 1
                  simp only [List.getElem?_cons_zero, List.getElem?_cons_succ] at z0 z1
                  have hb14 := HB12.out.grew hg14
                  have r0 := hb14.at_ 0
                  have r1 := hb14.at_ 1
                  have r2 := hb14.at_ 2
                  have r3 := hb14.at_ 3
                  have r4 := hb14.at_ 4
                  simp only [List.getElem?_cons_zero, List.getElem?_cons_succ] at r0 r1 r2 r3 r4
                  have HMB := Lib.hid hmB
                  have HGBB := Lib.hid hGB
                  have HOKB := Lib.hid hok
                  have HKB := Lib.hid hkB
                  have HPUT := Lib.hid hput
                  have HWWT := Lib.hid hwwt
                  have HPICK := Lib.hid hpick
                  have HBB := Lib.hid hbB
                  have hwt : IntKind.i64.wrap ((t : Int) + 1) = ((t + 1 : Nat) : Int) := by rw [IntWalk.i64_in _ (by omega)]; omega
                  clear hW14 hg24 hb24 hg14 hsB hmB hGB hok hbB hkB hput hwwt hpick hb14 hg13
                  by_cases c3 : f0 = 3 ∧ 0 ≤ f1
                  · obtain ⟨c3, c4⟩ := c3
                    obtain ⟨j, hj⟩ : ∃ j, j = (f1 % (sB.backs.length : Int)).toNat := ⟨_, rfl⟩
                    have hl0 : 0 < sB.backs.length := by rw [HBB.out]; simp
                    obtain ⟨Q, hQ⟩ : ∃ Q, Q = sB.backs.getD j zPk := ⟨_, rfl⟩
                    have hmem := getD_mem sB.backs f1 zPk hl0
                    rw [← hj, ← hQ] at hmem
                    have e1 := Int.emod_nonneg f1 (show (sB.backs.length : Int) ≠ 0 by omega)
                    have e2 := Int.emod_lt_of_pos f1 (show (0 : Int) < sB.backs.length by omega)
                    have hjl : j < sB.backs.length := by omega
                    have hQj : sB.backs[j]? = some Q := by
                      rw [hQ, List.getD_eq_getElem?_getD, List.getElem?_eq_getElem hjl]; rfl
                    have hmod : Int.tmod f1 (kn2 : Int) = (j : Int) := by rw [HKB.out, Int.tmod_eq_emod_of_nonneg c4]; omega
                    have hmw : IntKind.i64.wrap (j : Int) = (j : Int) := IntWalk.i64_in _ (by have := HKN2.out; have := HKB.out; omega)
                    have hfin := Lib.hid (HPICK.out (some Q) (by unfold pickB; rw [if_pos ⟨by rw [← HF.out.1]; exact c3, by rw [← HF.out.2]; exact c4⟩, ← HF.out.2, ← hj, ← hQ]))
                    have hst := cst_c HMB.out HGBB.out HMS.out (q := Q) (HOKB.out _ hmem)
                    obtain ⟨Q0, Q1, Q2, Q3, Q4⟩ := Q
                    simp only [pkV] at hst
                    have HSTK := Lib.hid hst
                    have hrow := HMB.out.backs
                    rw [← HKB.out] at hrow
                    obtain ⟨ad2, hA2, had2, m0, m1, m2, m3, m4⟩ := row_pk hrow j _ hQj
                    subst hA2
                    simp only at m0 m1 m2 m3 m4
                    have hjq : j < kn2 := by rw [HKB.out]; exact hjl
                    have x1 : decide ((j : Int) < (kn2 : Int)) = true := decide_eq_true (by omega)
                    have x2 : decide (j < kn2) = true := decide_eq_true hjq
                    have x3 : (j : Int) < (kn2 : Int) := by omega
                    have x4 : ¬ kn2 = 0 := by omega
                    have x5 : ¬ (kn2 : Int) = 0 := by omega
                    have x6 : ((kn2 : Int) == 0) = false := by simp [x4]
                    have c4a : decide (0 ≤ f1) = true := decide_eq_true c4
                    clear hl0 hQ hmem e1 e2 hjl hQj hst hrow had2 hj
                    subst c3
                    go_wp2_with fail
                    refine HSTK.out.mono ?_
                    rintro e w15 ⟨b15, vs15, rfl, hm15⟩
                    have HM15 := Lib.hid hm15
                    clear hm15
                    go_wp2_with fail
                    go_roundw
                    case rel => exact ⟨t + 1, vs15, vw8, bp2, vb2, by rfl, by omega, by rw [HPUT.out], by rw [HWWT.out]; rfl, by rw [hfin.out]; exact HM15.out⟩
                    case measure => simp [intOf]; omega
                  · by_cases c1 : f0 = 1
                    · have hfin := Lib.hid (HPICK.out none (by unfold pickB; rw [if_neg (by rw [← HF.out.1, ← HF.out.2]; exact c3), if_pos (by rw [← HF.out.1]; exact c1)]))
                      clear c3
                      subst c1
                      go_wp2_with fail
                      go_roundw
                      case rel => exact ⟨t + 1, vs1, vw8, bp2, vb2, by rfl, by omega, by rw [HPUT.out], by rw [HWWT.out]; rfl, by rw [hfin.out]; exact HMB.out⟩
                      case measure => simp [intOf]; omega
                    · have hfin := Lib.hid (HPICK.out (some ⟨B0, B1, B2, B3, B4⟩) (by unfold pickB; rw [if_neg (by rw [← HF.out.1, ← HF.out.2]; exact c3), if_neg (by rw [← HF.out.1]; exact c1)]))
                      have hst := cst_c HMB.out HGBB.out HMS.out (q := ⟨B0, B1, B2, B3, B4⟩) (HOKB.out _ (by rw [HBB.out]; simp))
                      simp only [pkV] at hst
                      have HSTK := Lib.hid hst
                      have c1a : (f0 == (1 : Int)) = false := by simp [c1]
                      have c1b : decide (f0 = 1) = false := decide_eq_false c1
                      clear hst
                      by_cases c4 : f0 = 3
                      · have c5 : ¬ 0 ≤ f1 := fun h => c3 ⟨c4, h⟩
                        have c5a : decide (0 ≤ f1) = false := decide_eq_false c5
                        clear c3 c1 c1a c1b
                        subst c4
                        go_wp2_with fail
                        refine HSTK.out.mono ?_
                        rintro e w15 ⟨b15, vs15, rfl, hm15⟩
                        have HM15 := Lib.hid hm15
                        clear hm15
                        go_wp2_with fail
                        go_roundw
                        case rel => exact ⟨t + 1, vs15, vw8, bp2, vb2, by rfl, by omega, by rw [HPUT.out], by rw [HWWT.out]; rfl, by rw [hfin.out]; exact HM15.out⟩
                        case measure => simp [intOf]; omega
                      · have c4a : (f0 == (3 : Int)) = false := by simp [c4]
                        have c4b : decide (f0 = 3) = false := decide_eq_false c4
                        clear c3
                        go_wp2_with fail
                        refine HSTK.out.mono ?_
                        rintro e w15 ⟨b15, vs15, rfl, hm15⟩
                        have HM15 := Lib.hid hm15
                        clear hm15
                        go_wp2_with fail
                        go_roundw
                        case rel => exact ⟨t + 1, vs15, vw8, bp2, vb2, by rfl, by omega, by rw [HPUT.out], by rw [HWWT.out]; rfl, by rw [hfin.out]; exact HM15.out⟩
                        case measure => simp [intOf]; omega
                | cons x rest =>
                  simp only [List.headD_cons, List.length_cons, Nat.zero_lt_succ, decide_true]
                  obtain ⟨v9, w9, hrun, hown9, hu9, hat9⟩ := app_msg wr w.heap.size At2 tn2 ct2 td x (by have := HM8.out.told; rw [HTN3.out] at this ⊢; exact this) HM8.out.size (by omega)
                  have hm9 := HM8.out.tell (x := x) (vt' := v9) (by have := hown9; rw [HTN3.out] at this; exact this) hu9 hat9
                  obtain ⟨At9, ct9, hv9⟩ := own_slice hown9
                  obtain ⟨tn9, htn9⟩ : ∃ tn9, tn9 = tn2 + 1 := ⟨_, rfl⟩
                  rw [← htn9] at hv9
                  subst hv9
                  have hcx9 := cnext_c hm9 (by
                    have h1 := congrArg List.length HCAT.out
                    simp only [List.length_append, List.length_cons] at h1
                    have := HTL.out
                    show rest.length ≤ 1000
                    omega)
                  rw [nextV_eq] at hcx9
                  have HRUN := Lib.hid hrun
                  have HCX9 := Lib.hid hcx9
                  have HTN9 := Lib.hid htn9
                  clear hrun hown9 hu9 hat9 hm9 hcx9 htn9
                  go_wp2_with (at_builtin; refine wpList_app (by rfl) (.tmp 116) (.tmp 118) 40 (by rfl) (by rfl) (by rfl) HRUN.out ?_)
                  refine HCX9.out.mono ?_
                  rintro e w10 ⟨vw10, rfl, hm10⟩
                  have HM10 := Lib.hid (show MemC w B g1 g m (tellS si (td ++ [x]) rest.tail) vs1 vw10 bp2 vb2 (.slice Aq qn cq) (.slice Ak kn ck) (.slice At9 tn9 ct9) w10 from hm10)
                  clear hm10
                  go_wp2_with fail
                  go_roundw
                  case rel => exact ⟨td ++ [x], rest, vw10, by simp [tellS, List.headD_eq_head?_getD], rfl, by rw [← HCAT.out]; simp, HM10.out⟩
                  case measure => simp [slLen]; have := HTN9.out; omega
    · obtain rfl : t = T := by omega
      have d1 : decide ((t : Int) < (t : Int)) = false := decide_eq_false (by omega)
      have d1' : decide (t < t) = false := decide_eq_false ht
      go_wp2_with fail
      go_ret2
      exact ⟨vs, vw, bp, vb, _, _, _, by rw [← HST.out, ← HPU.out]; rfl, by rw [← HST.out]; exact HMEM.out⟩
end Go.Proofs.Yteaefambkagpbaa.F
