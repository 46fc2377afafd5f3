/- What an argument of nested kinds reads as, with the sizes of its strings, which the weights of the argument bound. -/
import Derived.Test.YtaeobiilihklhaaOpen
namespace Go.Proofs.YtaeobiilihklhaaO
set_option linter.unusedSimpArgs false
open Go Go.RowKit Go.ChangeShapes Go.WideShapes Go.ChangeAt Go.Proofs.YtaeobiilihklhaaW.PrintWords
/-- cells of type t that can be read as data of no more weight than is reached are some x of kind d -/
def OpensW {α : Type} (P : Program) (t : TypeId) (d : Kd α) (ok : α → Prop) : Prop :=
  ∀ (H : Type) (enc : TypeId × Value → H) (W : World) (sp : Nat → Bool) (held : Bool) (fuel : Nat) (cs : List Value) (y : DataW H × List MemPlace), DataW.trod enc P W 0 sp held fuel t cs = some y → (∀ n ∈ y.1.weights P t, n ≤ reachBytes) → ∃ x, d.K W x cs ∧ ok x
section
variable {P : Program} {α : Type}
theorem Opens.w {t : TypeId} {d : Kd α} {ok : α → Prop} (h : Opens P t d ok) : OpensW P t d ok := fun H enc W sp held fuel cs y hy _ => h H enc W sp held fuel cs y hy
theorem opensW_string {t : TypeId} (hu : P.underlying t = some .string) : OpensW P t Kd.string (fun s => s.size ≤ 140737488351232) := by
  intro H enc W sp held fuel cs y h hw
  cases fuel with
  | zero => simp [DataW.trod] at h
  | succ n =>
    have key : ∃ s, cs = [.string s] ∧ y.1 = .lit (.string s.data.toList) := by
      simp only [DataW.trod, hu] at h
      split at h <;> simp_all
      rw [← h.2]
    obtain ⟨s, rfl, hy⟩ := key
    refine ⟨s, rfl, ?_⟩
    have := hw s.size (by rw [hy]; simp [DataW.weights])
    exact this
theorem mapM_mem {β γ : Type} {f : β → Option γ} : ∀ {l : List β} {ys : List γ}, l.mapM f = some ys → ∀ (x : β) (z : γ), x ∈ l → f x = some z → z ∈ ys
  | [], ys, h, x, z, hx, _ => by simp at hx
  | a :: l, ys, h, x, z, hx, hz => by
    simp only [List.mapM_cons] at h
    obtain ⟨b, hb, h⟩ := Option.bind_eq_some_iff.1 h
    obtain ⟨bs, hbs, h⟩ := Option.bind_eq_some_iff.1 h
    simp at h
    subst h
    rcases List.mem_cons.1 hx with rfl | hx
    · rw [hb] at hz; injection hz with hz; subst hz; simp
    · exact List.mem_cons_of_mem _ (mapM_mem hbs x z hx hz)
theorem weightsAll_mem {H : Type} {e : TypeId} {d : DataW H} {n : Nat} : ∀ {ds : List (DataW H)}, d ∈ ds → n ∈ d.weights P e → n ∈ DataW.weightsAll P e ds
  | [], h, _ => by simp at h
  | a :: ds, h, hn => by
    simp only [DataW.weightsAll]
    rcases List.mem_cons.1 h with rfl | h
    · exact List.mem_append_left _ hn
    · exact List.mem_append_right _ (weightsAll_mem h hn)
theorem opensW_slice {t e : TypeId} {d : Kd α} {ok : α → Prop} (hu : P.underlying t = some (.slice e)) (he : OpensW P e d ok) (hc : P.cellsOf e = d.sz) : OpensW P t (Kd.slice e d) (fun xs => ∀ x ∈ xs, ok x) := by
  intro H enc W sp held fuel cs y h hw
  cases fuel with
  | zero => simp [DataW.trod] at h
  | succ n =>
    have key : cs = [.slice none 0 0] ∨ ∃ a len cap, cs = [.slice (some a) len cap] ∧ len ≤ cap ∧ cap ≤ maxLen ∧ ∃ elems rest, (List.range len).mapM (fun i => (W.cells? 0 (a.add (i * P.cellsOf e)) (P.cellsOf e)).bind (DataW.trod enc P W 0 sp held n e)) = some elems ∧ y.1 = .slice (elems.map (·.1)) rest := by
      simp only [DataW.trod, hu] at h
      split at h <;> try (simp_all; done)
      rename_i e' a len cap heq
      simp only [Option.some.injEq, TypeDesc.slice.injEq] at heq
      subst heq
      split at h
      · rename_i hb
        obtain ⟨elems, he1, h⟩ := Option.bind_eq_some_iff.1 h
        obtain ⟨rest, _, h⟩ := Option.map_eq_some_iff.1 h
        refine .inr ⟨a, len, cap, rfl, hb.2.1, hb.2.2, elems, rest.map (·.1), he1, ?_⟩
        rw [← h]
      · cases h
    rcases key with rfl | ⟨a, len, cap, rfl, h1, h2, elems, rest, he1, hy⟩
    · exact ⟨[], ⟨none, 0, rfl, by simp, by simp [Kd.C, ReadsRow]⟩, by simp⟩
    · rw [hc] at he1
      have hm := mapM_get he1
      obtain ⟨xs, x1, x2, x3⟩ := choose_list (ok := ok) (Q := fun i x => ∃ c, W.cells? 0 (a.add (i * d.sz)) d.sz = some c ∧ d.K W x c) len (fun i hi => by
        obtain ⟨z, hz⟩ := hm.2 i i (by simp [hi])
        have hmem := mapM_mem he1 i z (by simp [hi]) hz
        obtain ⟨c, hc1, hc2⟩ := Option.bind_eq_some_iff.1 hz
        obtain ⟨x, hx, hk⟩ := he H enc W sp held n c z hc2 (fun q hq => hw q (by
          rw [hy]
          simp only [DataW.weights, hu]
          exact List.mem_cons_of_mem _ (List.mem_append_left _ (weightsAll_mem (List.mem_map_of_mem hmem) hq))))
        exact ⟨x, ⟨c, hc1, hx⟩, hk⟩)
      refine ⟨xs, ⟨some a, cap, by rw [x1], by omega, ?_⟩, x3⟩
      refine ⟨rfl, by have : maxLen = 9223372036854775807 := rfl; omega, fun _ => ⟨a, rfl, fun j p hp => ?_⟩⟩
      obtain ⟨c, hc1, hk⟩ := x2 j p hp
      have hg := cells_get hc1
      refine ⟨c, hg.1, hk, fun i u hiu => ?_⟩
      have := hg.2 i u hiu
      rw [← this]
      congr 1
      unfold Addr.add
      by_cases z1 : j * d.sz = 0
      · rw [if_pos z1]
        by_cases z2 : i = 0
        · simp [z1, z2]
        · rw [if_neg (by omega), if_neg z2]; simp [z1]
      · rw [if_neg z1, if_neg (by omega)]
        by_cases z2 : i = 0
        · simp [z2]
        · rw [if_neg z2]; simp [Nat.add_assoc]
theorem opensW_array {t e n : Nat} {d : Kd α} {ok : α → Prop} (hs : 0 < d.sz) (hu : P.underlying t = some (.array n e)) (he : OpensW P e d ok) (hc : P.cellsOf e = d.sz) (ht : P.cellsOf t = n * d.sz) : OpensW P t (Kd.arr n d hs) (fun xs => ∀ x ∈ xs, ok x) := by
  intro H enc W sp held fuel cs y h hw
  cases fuel with
  | zero => simp [DataW.trod] at h
  | succ m =>
    simp only [DataW.trod, hu] at h
    split at h
    · rename_i hl
      obtain ⟨ys, hy, hyy⟩ := Option.map_eq_some_iff.1 h
      have hm := mapM_get hy
      obtain ⟨xs, x1, x2, x3⟩ := choose_list (ok := ok) (Q := fun i x => d.K W x ((cs.drop (i * d.sz)).take d.sz)) n (fun i hi => by
        obtain ⟨z, hz⟩ := hm.2 i i (by simp [hi])
        have hmem := mapM_mem hy i z (by simp [hi]) hz
        rw [hc] at hz
        exact he H enc W sp held m _ z hz (fun q hq => hw q (by
          rw [← hyy]
          simp only [DataW.weights, hu]
          exact weightsAll_mem (List.mem_map_of_mem hmem) hq)))
      exact ⟨xs, ⟨x1, by rw [x1, hl, ht], x2⟩, x3⟩
    · cases h
/-- an argument of a kind -/
theorem opensW_arg {t : TypeId} {d : Kd α} {ok : α → Prop} (ho : OpensW P t d ok) {H : Type} {enc : TypeId × Value → H} {W : World} {sp : Nat → Bool} {held : Bool} {v : Value} {y : DataW H} {ps : List MemPlace} {ts : List TypeId} {ds : List (DataW H)} {j : Nat}
    (hsz : (DataW.weightsEach P ts ds).all (· ≤ reachBytes) = true) (ht : ts[j]? = some t) (hd : ds[j]? = some y) (h : DataW.Trod enc P W 0 sp held t v y ps) : ∃ x, d.K W x v.cells.toList ∧ ok x := by
  obtain ⟨fuel, hf⟩ := h
  exact ho H enc W sp held fuel _ _ hf (fun n hn => by
    have := List.all_eq_true.1 hsz _ (DataW.weights_mem_each ht hd n hn)
    simpa using this)
end
end Go.Proofs.YtaeobiilihklhaaO
