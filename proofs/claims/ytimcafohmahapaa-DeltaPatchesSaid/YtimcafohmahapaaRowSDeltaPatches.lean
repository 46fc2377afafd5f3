/- The row of the law DeltaPatches: for every input the law's call returns true, whatever memory; no condition. Out of the contract DeltaPatches_c. -/
import Derived.Test.YtimcafohmahapaaSD
import Derived.SizedLaws
import Derived.ChangeSlices
import Derived.Test.YtimcafohmahapaaVArr
import Derived.WideKeyArr2
import Derived.WalkKit
import Derived.ProofKit
import Derived.OpenShut
import Derived.Test.YtimcafohmahapaaRows
import Derived.ShutString
import Derived.ChangeOld
import Derived.Below
import Derived.Lib.SmallJoins

-- DeltaPatches
namespace Go.Proofs.Ytimcafohmahapaa.F
open Go Go.RowKit Go.Proofs.YtimcafohmahapaaW.PrintWords Go.Proofs.YtimcafohmahapaaW.PrintLast Go.Proofs.YtimcafohmahapaaW.PrintMore Go.Proofs.YtimcafohmahapaaM Go.Proofs.YtimcafohmahapaaR
attribute [local go_sem] max2_int min2_int max_two min_two
set_option linter.unusedSimpArgs false
set_option linter.unusedVariables false
set_option maxRecDepth 100000
theorem sumD_one : ∀ {l : List Pc} {p : Pc}, p ∈ l → p.f2.size ≤ sumD l
  | x :: l, p, h => by
    simp only [sumD]
    rcases List.mem_cons.1 h with rfl | h
    · omega
    · have := sumD_one h; omega
set_option maxHeartbeats 4000000 in
theorem DeltaPatches_c (w : World) (b : ByteArray) (size : Int) (A : Option Addr) (c : Nat) (l : List Pc) {Q0 Q1 Q2 : Prop} (ok0 : Q0) (ok1 : Q1) (hr : Kd.C k43 w A l.length l) (hc : l.length ≤ c) (ok2 : Q2) :
    Calls Try.prog 6 #[.string b, .int .i64 size, .slice A l.length c] w (Tells w (Is (.bool true))) := by
  clear ok0 ok1 ok2
  obtain ⟨fb, hf1, hf2⟩ := few_c l
  have HFE := Lib.hid (hf2 w A c hr hc)
  have HR := Lib.hid (fun wx (h : Grew w wx) => Kd.C_below hr h)
  obtain ⟨T, hT⟩ : ∃ T, b.size = T := ⟨_, rfl⟩
  obtain ⟨n, hn⟩ : ∃ n, n = l.length := ⟨_, rfl⟩
  by_cases h1 : 3000 < T
  · have d1 : decide (3000 < (T : Int)) = true := decide_eq_true (by omega)
    have d1n : decide (3000 < T) = true := decide_eq_true h1
    rw [← hn] at HFE hc ⊢
    clear hf1 hf2 hr hn
    go_enter Try.func6, Try.ntmps6
    go_wp2_with fail
    refine (lives_c w).mono ?_
    rintro e w2 ⟨_, rfl, rfl, hg2⟩
    go_wp2_with fail
    go_ret
    exact ⟨_, rfl, rfl, hg2⟩
  have d1 : decide (3000 < (T : Int)) = false := decide_eq_false (by omega)
  have d1n : decide (3000 < T) = false := decide_eq_false h1
  cases fb with
  | false =>
    rw [← hn] at HFE hc ⊢
    clear hf1 hf2 hr hn
    go_enter Try.func6, Try.ntmps6
    go_wp2_with fail
    refine HFE.out.mono ?_
    rintro e w1 ⟨_, rfl, rfl, hg1⟩
    go_wp2_with fail
    refine (lives_c w1).mono ?_
    rintro e w2 ⟨_, rfl, rfl, hg2⟩
    go_wp2_with fail
    go_ret
    exact ⟨_, rfl, rfl, Grew.trans hg1 hg2⟩
  | true =>
    have hfew := hf1 rfl
    have hs : ∀ p ∈ l, p.f2.size ≤ 5000 := fun p hp => Nat.le_trans (sumD_one hp) hfew.2
    obtain ⟨R, hR⟩ : ∃ R, R = patP b size l := ⟨_, rfl⟩
    obtain ⟨r1, r2⟩ := R
    have HP1 := Lib.hid (fun wx (h : Grew w wx) => patch_c wx b size l A c (HR.out wx h) hc (by omega) hs)
    have HP2 := Lib.hid (fun wx (h : Grew w wx) => rpatch_c wx b size l A c (HR.out wx h) hc (by omega) hs)
    rw [← hR] at HP1 HP2
    have HC1 := Lib.hid (fun wx (h : Grew w wx) => chk_c A c l wx (HR.out wx h) hc)
    have HC2 := Lib.hid (fun wx (h : Grew w wx) => rmayD_c A c l wx (HR.out wx h) hc)
    obtain ⟨mb, hmb⟩ : ∃ mb, mb = mayD l := ⟨_, rfl⟩
    rw [← hmb] at HC1 HC2
    rw [← hn] at HFE HP1 HP2 HC1 HC2 hc ⊢
    simp only at HP1 HP2
    clear hf1 hf2 hr hn hfew hs hR hmb HR
    go_enter Try.func6, Try.ntmps6
    go_wp2_with fail
    refine HFE.out.mono ?_
    rintro e w1 ⟨_, rfl, rfl, hg1⟩
    go_wp2_with fail
    refine (HP1.out w1 hg1).mono ?_
    rintro e w2 ⟨_, rfl, rfl, hg2⟩
    have hg2 := Grew.trans hg1 hg2
    go_wp2_with fail
    refine (HP2.out w2 hg2).mono ?_
    rintro e w3 ⟨_, rfl, rfl, hg3⟩
    have hg3 := Grew.trans hg2 hg3
    have rr : (r2 == r2) = true := by simp
    go_wp2_with fail
    refine (HC1.out w3 hg3).mono ?_
    rintro e w4 ⟨_, rfl, rfl, hg4⟩
    have hg4 := Grew.trans hg3 hg4
    cases mb with
    | true =>
      go_wp2_with fail
      refine (HC2.out w4 hg4).mono ?_
      rintro e w5 ⟨_, rfl, rfl, hg5⟩
      have hg5 := Grew.trans hg4 hg5
      go_wp2_with fail
      refine (lives_c w5).mono ?_
      rintro e w6 ⟨_, rfl, rfl, hg6⟩
      go_wp2_with fail
      go_ret
      exact ⟨_, rfl, rfl, Grew.trans hg5 hg6⟩
    | false =>
      go_wp2_with fail
      refine (HC2.out w4 hg4).mono ?_
      rintro e w5 ⟨_, rfl, rfl, hg5⟩
      have hg5 := Grew.trans hg4 hg5
      go_wp2_with fail
      refine (lives_c w5).mono ?_
      rintro e w6 ⟨_, rfl, rfl, hg6⟩
      go_wp2_with fail
      go_ret
      exact ⟨_, rfl, rfl, Grew.trans hg5 hg6⟩
end Go.Proofs.Ytimcafohmahapaa.F

-- WSized
-- PRINTED BY print.sh 35421559b90ae4d0a3588c463048766b98c2df88dd9212a6774a882060cdf62d: not written by this session
-- PRINTED WORDS (module Derived/Print/Sized.lean): go-gate-2's, for the rows of laws over slices: an AI agent of Go's test side, Tue Nov 17 2026; no person has read it. Lean checks it.
namespace Go.Proofs.YtimcafohmahapaaW.PrintWords
open Go.ChangeShapes Go.WideShapes
/-- A row's slice of whole numbers is no longer than its weight allows. -/
theorem sized_ints {H : Type} {enc : TypeId × Value → H} {P : Program} {W : World} {base : Nat} {spare : Nat → Bool} {held : Bool} {t e : TypeId} {k : IntKind} {a : Option Addr} {len cap : Nat} {d : DataW H} {ps : List MemPlace} {ts : List TypeId} {ds : List (DataW H)} {j : Nat}
    (hsz : (DataW.weightsEach P ts ds).all (· ≤ reachBytes) = true) (ht : ts[j]? = some t) (hd : ds[j]? = some d) (hu : P.underlying t = some (.slice e)) (he : P.underlying e = some (.int k)) (hc : P.cellsOf e = 1) {B : Nat} (hB : P.bytesOf e = B)
    (h : DataW.Trod enc P W base spare held t (.slice a len cap) d ps) : len * B ≤ 140737488351232 := by
  obtain ⟨fuel, hf⟩ := h
  rcases open_ints hu he hc hf with ⟨hcs, _⟩ | ⟨x, l, c, zs, hcs, _, hl, _, hz, hx, _, _⟩
  · simp [Value.cells] at hcs
    obtain ⟨rfl, rfl, rfl⟩ := hcs
    simp
  · simp [Value.cells] at hcs
    obtain ⟨rfl, rfl, rfl⟩ := hcs
    obtain ⟨hx, _⟩ := Prod.mk.inj hx
    subst hx
    have z := sized_slice hsz ht hd hu
    rw [hB] at z
    have hl2 : len ≤ zs.length := by
      rw [hz]
      split
      · exact hl
      · exact Nat.le_refl _
    have h1 : (lits (H := H) k (zs.take len)).length + (lits (H := H) k (zs.drop len)).length = zs.length := by
      simp [lits]
      omega
    rw [h1] at z
    exact Nat.le_trans (Nat.mul_le_mul_right _ hl2) z
end Go.Proofs.YtimcafohmahapaaW.PrintWords

-- Open
namespace Go.Proofs.YtimcafohmahapaaO
set_option linter.unusedSimpArgs false
open Go Go.RowKit Go.ChangeShapes Go.WideShapes Go.ChangeAt Go.Proofs.YtimcafohmahapaaW.PrintWords
/-- cells of type t that can be read as data are some x of kind d -/
def Opens {α : Type} (P : Program) (t : TypeId) (d : Kd α) (ok : α → Prop) : Prop :=
  ∀ (H : Type) (enc : TypeId × Value → H) (W : World) (sp : Nat → Bool) (held : Bool) (fuel : Nat) (cs : List Value) (y : DataW H × List MemPlace), DataW.trod enc P W 0 sp held fuel t cs = some y → ∃ x, d.K W x cs ∧ ok x
section
variable {P : Program} {α : Type}
theorem opens_int {t : TypeId} {k : IntKind} (hu : P.underlying t = some (.int k)) : Opens P t (Kd.int k) (fun x => (Lit.int k x).wf = true) := by
  intro H enc W sp held fuel cs y h
  cases fuel with
  | zero => simp [DataW.trod] at h
  | succ n =>
    have key : ∃ n', cs = [.int k n'] ∧ (Lit.int k n').wf = true := by
      simp only [DataW.trod, hu] at h
      split at h <;> simp_all
    obtain ⟨x, rfl, hx⟩ := key
    exact ⟨x, rfl, hx⟩
theorem opens_bool {t : TypeId} (hu : P.underlying t = some .bool) : Opens P t Kd.bool (fun _ => True) := by
  intro H enc W sp held fuel cs y h
  cases fuel with
  | zero => simp [DataW.trod] at h
  | succ n =>
    have key : ∃ b, cs = [.bool b] := by
      simp only [DataW.trod, hu] at h
      split at h <;> simp_all
    obtain ⟨x, rfl⟩ := key
    exact ⟨x, rfl, trivial⟩
theorem opens_string {t : TypeId} (hu : P.underlying t = some .string) : Opens P t Kd.string (fun s => s.size ≤ maxLen) := by
  intro H enc W sp held fuel cs y h
  cases fuel with
  | zero => simp [DataW.trod] at h
  | succ n =>
    simp only [DataW.trod, hu] at h
    split at h <;> simp_all
    exact ⟨_, rfl, h.1⟩
theorem mapM_get {β γ : Type} {f : β → Option γ} : ∀ {l : List β} {ys : List γ}, l.mapM f = some ys → ys.length = l.length ∧ ∀ (i : Nat) (x : β), l[i]? = some x → ∃ y, f x = some y
  | [], ys, h => by simp at h; subst h; simp
  | a :: l, ys, h => by
    simp only [List.mapM_cons] at h
    obtain ⟨b, hb, h⟩ := Option.bind_eq_some_iff.1 h
    obtain ⟨bs, hbs, h⟩ := Option.bind_eq_some_iff.1 h
    simp at h
    subst h
    have ih := mapM_get hbs
    refine ⟨by simp [ih.1], fun i x hx => ?_⟩
    cases i with
    | zero => simp at hx; subst hx; exact ⟨b, hb⟩
    | succ i => simp at hx; exact ih.2 i x hx
theorem choose_list {ok : α → Prop} {Q : Nat → α → Prop} : ∀ n : Nat, (∀ i, i < n → ∃ x, Q i x ∧ ok x) → ∃ xs : List α, xs.length = n ∧ (∀ (i : Nat) (x : α), xs[i]? = some x → Q i x) ∧ ∀ x ∈ xs, ok x
  | 0, _ => ⟨[], rfl, by simp, by simp⟩
  | n + 1, h => by
    obtain ⟨xs, h1, h2, h3⟩ := choose_list n (fun i hi => h i (by omega))
    obtain ⟨x, hx, hk⟩ := h n (by omega)
    refine ⟨xs ++ [x], by simp [h1], fun i y hy => ?_, fun y hy => ?_⟩
    · rcases Nat.lt_or_ge i n with hlt | hge
      · rw [List.getElem?_append_left (by omega)] at hy; exact h2 i y hy
      · rw [List.getElem?_append_right (by omega)] at hy
        have : i = n := by
          rcases Nat.lt_or_ge n i with h' | h'
          · rw [List.getElem?_eq_none (by simp; omega)] at hy; cases hy
          · omega
        subst this
        simp [h1] at hy
        subst hy; exact hx
    · rcases List.mem_append.1 hy with hy | hy
      · exact h3 y hy
      · simp at hy; subst hy; exact hk
theorem cells_get {W : World} {a : Addr} {n : Nat} {cs : List Value} (h : W.cells? 0 a n = some cs) : cs.length = n ∧ ∀ (i : Nat) (u : Value), cs[i]? = some u → W.cell? (a.add i) = some u := by
  unfold World.cells? at h
  rw [if_pos (Nat.zero_le _)] at h
  have h1 := mapM_get h
  refine ⟨by simpa using h1.1, fun i u hu => ?_⟩
  have hi : i < n := by
    have := (List.getElem?_eq_some_iff.1 hu).1
    rw [h1.1] at this; simpa using this
  obtain ⟨y, hy⟩ := h1.2 i i (by simp [hi])
  have key : ∀ (l : List Nat) (ys : List Value), l.mapM (fun i => W.cell? (a.add i)) = some ys → ∀ (j : Nat), ys[j]? = (l[j]?).bind fun i => W.cell? (a.add i) := by
    intro l
    induction l with
    | nil => intro ys h j; simp at h; subst h; simp
    | cons b l ih =>
      intro ys h j
      simp only [List.mapM_cons] at h
      obtain ⟨c, hc, h⟩ := Option.bind_eq_some_iff.1 h
      obtain ⟨cs', hcs, h⟩ := Option.bind_eq_some_iff.1 h
      simp at h; subst h
      cases j with
      | zero => simp [hc]
      | succ j => simpa using ih cs' hcs j
  have := key _ _ h i
  rw [hu] at this
  simp [hi] at this
  exact this.symm
theorem opens_slice {t e : TypeId} {d : Kd α} {ok : α → Prop} (hu : P.underlying t = some (.slice e)) (he : Opens P e d ok) (hc : P.cellsOf e = d.sz) : Opens P t (Kd.slice e d) (fun xs => ∀ x ∈ xs, ok x) := by
  intro H enc W sp held fuel cs y h
  cases fuel with
  | zero => simp [DataW.trod] at h
  | succ n =>
    have key : cs = [.slice none 0 0] ∨ ∃ a len cap, cs = [.slice (some a) len cap] ∧ len ≤ cap ∧ cap ≤ maxLen ∧ ∃ elems, (List.range len).mapM (fun i => (W.cells? 0 (a.add (i * P.cellsOf e)) (P.cellsOf e)).bind (DataW.trod enc P W 0 sp held n e)) = some elems := by
      simp only [DataW.trod, hu] at h
      split at h <;> try (simp_all; done)
      rename_i e' a len cap heq
      simp only [Option.some.injEq, TypeDesc.slice.injEq] at heq
      subst heq
      split at h
      · rename_i hb
        obtain ⟨elems, he1, _⟩ := Option.bind_eq_some_iff.1 h
        exact .inr ⟨a, len, cap, rfl, hb.2.1, hb.2.2, elems, he1⟩
      · cases h
    rcases key with rfl | ⟨a, len, cap, rfl, h1, h2, elems, he1⟩
    · exact ⟨[], ⟨none, 0, rfl, by simp, by simp [Kd.C, ReadsRow]⟩, by simp⟩
    · rw [hc] at he1
      have hm := mapM_get he1
      obtain ⟨xs, x1, x2, x3⟩ := choose_list (ok := ok) (Q := fun i x => ∃ c, W.cells? 0 (a.add (i * d.sz)) d.sz = some c ∧ d.K W x c) len (fun i hi => by
        obtain ⟨z, hz⟩ := hm.2 i i (by simp [hi])
        obtain ⟨c, hc1, hc2⟩ := Option.bind_eq_some_iff.1 hz
        obtain ⟨x, hx, hk⟩ := he H enc W sp held n c z hc2
        exact ⟨x, ⟨c, hc1, hx⟩, hk⟩)
      refine ⟨xs, ⟨some a, cap, by rw [x1], by omega, ?_⟩, x3⟩
      refine ⟨rfl, by have : maxLen = 9223372036854775807 := rfl; omega, fun _ => ⟨a, rfl, fun j p hp => ?_⟩⟩
      obtain ⟨c, hc1, hk⟩ := x2 j p hp
      have hg := cells_get hc1
      refine ⟨c, hg.1, hk, fun i u hiu => ?_⟩
      have := hg.2 i u hiu
      rw [← this]
      congr 1
      unfold Addr.add
      by_cases z1 : j * d.sz = 0
      · rw [if_pos z1]
        by_cases z2 : i = 0
        · simp [z1, z2]
        · rw [if_neg (by omega), if_neg z2]; simp [z1]
      · rw [if_neg z1, if_neg (by omega)]
        by_cases z2 : i = 0
        · simp [z2]
        · rw [if_neg z2]; simp [Nat.add_assoc]
theorem opens_array {t e n : Nat} {d : Kd α} {ok : α → Prop} (hs : 0 < d.sz) (hu : P.underlying t = some (.array n e)) (he : Opens P e d ok) (hc : P.cellsOf e = d.sz) (ht : P.cellsOf t = n * d.sz) : Opens P t (Kd.arr n d hs) (fun xs => ∀ x ∈ xs, ok x) := by
  intro H enc W sp held fuel cs y h
  cases fuel with
  | zero => simp [DataW.trod] at h
  | succ m =>
    simp only [DataW.trod, hu] at h
    split at h
    · rename_i hl
      obtain ⟨ys, hy, _⟩ := Option.map_eq_some_iff.1 h
      have hm := mapM_get hy
      obtain ⟨xs, x1, x2, x3⟩ := choose_list (ok := ok) (Q := fun i x => d.K W x ((cs.drop (i * d.sz)).take d.sz)) n (fun i hi => by
        obtain ⟨z, hz⟩ := hm.2 i i (by simp [hi])
        rw [hc] at hz
        exact he H enc W sp held m _ z hz)
      exact ⟨xs, ⟨x1, by rw [x1, hl, ht], x2⟩, x3⟩
    · cases h
/-- an argument of a kind -/
theorem opens_arg {t : TypeId} {d : Kd α} {ok : α → Prop} (ho : Opens P t d ok) {H : Type} {enc : TypeId × Value → H} {W : World} {sp : Nat → Bool} {held : Bool} {v : Value} {y : DataW H} {ps : List MemPlace} (h : DataW.Trod enc P W 0 sp held t v y ps) : ∃ x, d.K W x v.cells.toList ∧ ok x := by
  obtain ⟨fuel, hf⟩ := h
  exact ho H enc W sp held fuel _ _ hf
theorem okWide_array {t n e : Nat} {r : Reach} {b0 : Nat} {v : Value} {W : World} (hu : P.underlying t = some (.array n e)) (h : Value.okWide P W r b0 t v) : ∃ cs, v = .agg cs ∧ cs.size = P.cellsOf t := by
  simp only [Value.okWide, hu] at h
  obtain ⟨cs, h1, h2, _⟩ := h
  exact ⟨cs, h1, h2⟩
theorem arr2 {d : Kd α} {hs : 0 < d.sz} (h1 : d.sz = 1) {W : World} {x : List α} {cs : Array Value} (h : (Kd.arr 2 d hs).K W x cs.toList) : ∃ a b c0 c1, x = [a, b] ∧ cs = #[c0, c1] ∧ d.K W a [c0] ∧ d.K W b [c1] := by
  obtain ⟨hl, hc, hr⟩ := h
  rw [hl, h1] at hc
  obtain ⟨l⟩ := cs
  match x, hl, l, hc, hr with
  | [a, b], _, [c0, c1], _, hr => exact ⟨a, b, c0, c1, rfl, rfl, by have := hr 0 a rfl; rw [h1] at this; exact this, by have := hr 1 b rfl; rw [h1] at this; exact this⟩
theorem arr3 {d : Kd α} {hs : 0 < d.sz} (h1 : d.sz = 1) {W : World} {x : List α} {cs : Array Value} (h : (Kd.arr 3 d hs).K W x cs.toList) : ∃ a b c c0 c1 c2, x = [a, b, c] ∧ cs = #[c0, c1, c2] ∧ d.K W a [c0] ∧ d.K W b [c1] ∧ d.K W c [c2] := by
  obtain ⟨hl, hc, hr⟩ := h
  rw [hl, h1] at hc
  obtain ⟨l⟩ := cs
  match x, hl, l, hc, hr with
  | [a, b, c], _, [c0, c1, c2], _, hr => exact ⟨a, b, c, c0, c1, c2, rfl, rfl, by have := hr 0 a rfl; rw [h1] at this; exact this, by have := hr 1 b rfl; rw [h1] at this; exact this, by have := hr 2 c rfl; rw [h1] at this; exact this⟩
end
end Go.Proofs.YtimcafohmahapaaO

-- OpenW
namespace Go.Proofs.YtimcafohmahapaaO
set_option linter.unusedSimpArgs false
open Go Go.RowKit Go.ChangeShapes Go.WideShapes Go.ChangeAt Go.Proofs.YtimcafohmahapaaW.PrintWords
/-- cells of type t that can be read as data of no more weight than is reached are some x of kind d -/
def OpensW {α : Type} (P : Program) (t : TypeId) (d : Kd α) (ok : α → Prop) : Prop :=
  ∀ (H : Type) (enc : TypeId × Value → H) (W : World) (sp : Nat → Bool) (held : Bool) (fuel : Nat) (cs : List Value) (y : DataW H × List MemPlace), DataW.trod enc P W 0 sp held fuel t cs = some y → (∀ n ∈ y.1.weights P t, n ≤ reachBytes) → ∃ x, d.K W x cs ∧ ok x
section
variable {P : Program} {α : Type}
theorem Opens.w {t : TypeId} {d : Kd α} {ok : α → Prop} (h : Opens P t d ok) : OpensW P t d ok := fun H enc W sp held fuel cs y hy _ => h H enc W sp held fuel cs y hy
theorem opensW_string {t : TypeId} (hu : P.underlying t = some .string) : OpensW P t Kd.string (fun s => s.size ≤ 140737488351232) := by
  intro H enc W sp held fuel cs y h hw
  cases fuel with
  | zero => simp [DataW.trod] at h
  | succ n =>
    have key : ∃ s, cs = [.string s] ∧ y.1 = .lit (.string s.data.toList) := by
      simp only [DataW.trod, hu] at h
      split at h <;> simp_all
      rw [← h.2]
    obtain ⟨s, rfl, hy⟩ := key
    refine ⟨s, rfl, ?_⟩
    have := hw s.size (by rw [hy]; simp [DataW.weights])
    exact this
theorem mapM_mem {β γ : Type} {f : β → Option γ} : ∀ {l : List β} {ys : List γ}, l.mapM f = some ys → ∀ (x : β) (z : γ), x ∈ l → f x = some z → z ∈ ys
  | [], ys, h, x, z, hx, _ => by simp at hx
  | a :: l, ys, h, x, z, hx, hz => by
    simp only [List.mapM_cons] at h
    obtain ⟨b, hb, h⟩ := Option.bind_eq_some_iff.1 h
    obtain ⟨bs, hbs, h⟩ := Option.bind_eq_some_iff.1 h
    simp at h
    subst h
    rcases List.mem_cons.1 hx with rfl | hx
    · rw [hb] at hz; injection hz with hz; subst hz; simp
    · exact List.mem_cons_of_mem _ (mapM_mem hbs x z hx hz)
theorem weightsAll_mem {H : Type} {e : TypeId} {d : DataW H} {n : Nat} : ∀ {ds : List (DataW H)}, d ∈ ds → n ∈ d.weights P e → n ∈ DataW.weightsAll P e ds
  | [], h, _ => by simp at h
  | a :: ds, h, hn => by
    simp only [DataW.weightsAll]
    rcases List.mem_cons.1 h with rfl | h
    · exact List.mem_append_left _ hn
    · exact List.mem_append_right _ (weightsAll_mem h hn)
theorem opensW_slice {t e : TypeId} {d : Kd α} {ok : α → Prop} (hu : P.underlying t = some (.slice e)) (he : OpensW P e d ok) (hc : P.cellsOf e = d.sz) : OpensW P t (Kd.slice e d) (fun xs => ∀ x ∈ xs, ok x) := by
  intro H enc W sp held fuel cs y h hw
  cases fuel with
  | zero => simp [DataW.trod] at h
  | succ n =>
    have key : cs = [.slice none 0 0] ∨ ∃ a len cap, cs = [.slice (some a) len cap] ∧ len ≤ cap ∧ cap ≤ maxLen ∧ ∃ elems rest, (List.range len).mapM (fun i => (W.cells? 0 (a.add (i * P.cellsOf e)) (P.cellsOf e)).bind (DataW.trod enc P W 0 sp held n e)) = some elems ∧ y.1 = .slice (elems.map (·.1)) rest := by
      simp only [DataW.trod, hu] at h
      split at h <;> try (simp_all; done)
      rename_i e' a len cap heq
      simp only [Option.some.injEq, TypeDesc.slice.injEq] at heq
      subst heq
      split at h
      · rename_i hb
        obtain ⟨elems, he1, h⟩ := Option.bind_eq_some_iff.1 h
        obtain ⟨rest, _, h⟩ := Option.map_eq_some_iff.1 h
        refine .inr ⟨a, len, cap, rfl, hb.2.1, hb.2.2, elems, rest.map (·.1), he1, ?_⟩
        rw [← h]
      · cases h
    rcases key with rfl | ⟨a, len, cap, rfl, h1, h2, elems, rest, he1, hy⟩
    · exact ⟨[], ⟨none, 0, rfl, by simp, by simp [Kd.C, ReadsRow]⟩, by simp⟩
    · rw [hc] at he1
      have hm := mapM_get he1
      obtain ⟨xs, x1, x2, x3⟩ := choose_list (ok := ok) (Q := fun i x => ∃ c, W.cells? 0 (a.add (i * d.sz)) d.sz = some c ∧ d.K W x c) len (fun i hi => by
        obtain ⟨z, hz⟩ := hm.2 i i (by simp [hi])
        have hmem := mapM_mem he1 i z (by simp [hi]) hz
        obtain ⟨c, hc1, hc2⟩ := Option.bind_eq_some_iff.1 hz
        obtain ⟨x, hx, hk⟩ := he H enc W sp held n c z hc2 (fun q hq => hw q (by
          rw [hy]
          simp only [DataW.weights, hu]
          exact List.mem_cons_of_mem _ (List.mem_append_left _ (weightsAll_mem (List.mem_map_of_mem hmem) hq))))
        exact ⟨x, ⟨c, hc1, hx⟩, hk⟩)
      refine ⟨xs, ⟨some a, cap, by rw [x1], by omega, ?_⟩, x3⟩
      refine ⟨rfl, by have : maxLen = 9223372036854775807 := rfl; omega, fun _ => ⟨a, rfl, fun j p hp => ?_⟩⟩
      obtain ⟨c, hc1, hk⟩ := x2 j p hp
      have hg := cells_get hc1
      refine ⟨c, hg.1, hk, fun i u hiu => ?_⟩
      have := hg.2 i u hiu
      rw [← this]
      congr 1
      unfold Addr.add
      by_cases z1 : j * d.sz = 0
      · rw [if_pos z1]
        by_cases z2 : i = 0
        · simp [z1, z2]
        · rw [if_neg (by omega), if_neg z2]; simp [z1]
      · rw [if_neg z1, if_neg (by omega)]
        by_cases z2 : i = 0
        · simp [z2]
        · rw [if_neg z2]; simp [Nat.add_assoc]
theorem opensW_array {t e n : Nat} {d : Kd α} {ok : α → Prop} (hs : 0 < d.sz) (hu : P.underlying t = some (.array n e)) (he : OpensW P e d ok) (hc : P.cellsOf e = d.sz) (ht : P.cellsOf t = n * d.sz) : OpensW P t (Kd.arr n d hs) (fun xs => ∀ x ∈ xs, ok x) := by
  intro H enc W sp held fuel cs y h hw
  cases fuel with
  | zero => simp [DataW.trod] at h
  | succ m =>
    simp only [DataW.trod, hu] at h
    split at h
    · rename_i hl
      obtain ⟨ys, hy, hyy⟩ := Option.map_eq_some_iff.1 h
      have hm := mapM_get hy
      obtain ⟨xs, x1, x2, x3⟩ := choose_list (ok := ok) (Q := fun i x => d.K W x ((cs.drop (i * d.sz)).take d.sz)) n (fun i hi => by
        obtain ⟨z, hz⟩ := hm.2 i i (by simp [hi])
        have hmem := mapM_mem hy i z (by simp [hi]) hz
        rw [hc] at hz
        exact he H enc W sp held m _ z hz (fun q hq => hw q (by
          rw [← hyy]
          simp only [DataW.weights, hu]
          exact weightsAll_mem (List.mem_map_of_mem hmem) hq)))
      exact ⟨xs, ⟨x1, by rw [x1, hl, ht], x2⟩, x3⟩
    · cases h
/-- an argument of a kind -/
theorem opensW_arg {t : TypeId} {d : Kd α} {ok : α → Prop} (ho : OpensW P t d ok) {H : Type} {enc : TypeId × Value → H} {W : World} {sp : Nat → Bool} {held : Bool} {v : Value} {y : DataW H} {ps : List MemPlace} {ts : List TypeId} {ds : List (DataW H)} {j : Nat}
    (hsz : (DataW.weightsEach P ts ds).all (· ≤ reachBytes) = true) (ht : ts[j]? = some t) (hd : ds[j]? = some y) (h : DataW.Trod enc P W 0 sp held t v y ps) : ∃ x, d.K W x v.cells.toList ∧ ok x := by
  obtain ⟨fuel, hf⟩ := h
  exact ho H enc W sp held fuel _ _ hf (fun n hn => by
    have := List.all_eq_true.1 hsz _ (DataW.weights_mem_each ht hd n hn)
    simpa using this)
end
end Go.Proofs.YtimcafohmahapaaO

-- OpenS
namespace Go.Proofs.YtimcafohmahapaaO
set_option linter.unusedSimpArgs false
open Go Go.RowKit Go.ChangeShapes Go.WideShapes Go.ChangeAt Go.Proofs.YtimcafohmahapaaW.PrintWords
section
variable {P : Program} {α β : Type}
/-- the fields from a place on -/
def OpensF (P : Program) (fs : List Field) (off : Nat) (d : Kd α) (ok : α → Prop) : Prop :=
  ∀ (H : Type) (enc : TypeId × Value → H) (W : World) (sp : Nat → Bool) (held : Bool) (fuel : Nat) (cs : List Value) (ys : List (DataW H × List MemPlace)),
    fs.mapM (fun f => DataW.trod enc P W 0 sp held fuel f.type ((cs.drop f.offset).take (P.cellsOf f.type))) = some ys → (∀ n ∈ DataW.weightsEach P (fs.map (·.type)) (ys.map (·.1)), n ≤ reachBytes) →
    ∃ x, d.K W x ((cs.drop off).take d.sz) ∧ ok x
theorem opensF_one {f : Field} {d : Kd α} {ok : α → Prop} (h : OpensW P f.type d ok) (hc : P.cellsOf f.type = d.sz) : OpensF P [f] f.offset d ok := by
  intro H enc W sp held fuel cs ys hy hw
  simp only [List.mapM_cons, List.mapM_nil] at hy
  obtain ⟨y, hy1, hy⟩ := Option.bind_eq_some_iff.1 hy
  simp at hy
  subst hy
  rw [hc] at hy1
  exact h H enc W sp held fuel _ y hy1 fun n hn => hw n (by simp [DataW.weightsEach, hn])
theorem opensF_cons {f : Field} {fs : List Field} {d : Kd α} {d2 : Kd β} {ok : α → Prop} {ok2 : β → Prop} (h : OpensW P f.type d ok) (hc : P.cellsOf f.type = d.sz) (h2 : OpensF P fs (f.offset + d.sz) d2 ok2) :
    OpensF P (f :: fs) f.offset (Kd.pair d d2) (fun x => ok x.1 ∧ ok2 x.2) := by
  intro H enc W sp held fuel cs ys hy hw
  simp only [List.mapM_cons] at hy
  obtain ⟨y, hy1, hy⟩ := Option.bind_eq_some_iff.1 hy
  obtain ⟨ys2, hy2, hy⟩ := Option.bind_eq_some_iff.1 hy
  simp at hy
  subst hy
  rw [hc] at hy1
  obtain ⟨x1, k1, o1⟩ := h H enc W sp held fuel _ y hy1 fun n hn => hw n (by simp [DataW.weightsEach, hn])
  obtain ⟨x2, k2, o2⟩ := h2 H enc W sp held fuel cs ys2 hy2 fun n hn => hw n (by
    simp only [List.map_cons, DataW.weightsEach]
    exact List.mem_append_right _ hn)
  refine ⟨(x1, x2), ⟨_, _, ?_, k1, k2⟩, o1, o2⟩
  show (cs.drop f.offset).take (d.sz + d2.sz) = _
  rw [List.take_add, List.drop_drop]
theorem opensW_struct {t : TypeId} {fs : Array Field} {d : Kd α} {ok : α → Prop} (hu : P.underlying t = some (.struct fs)) (h : OpensF P fs.toList 0 d ok) (hc : P.cellsOf t = d.sz) : OpensW P t d ok := by
  intro H enc W sp held fuel cs y hy hw
  cases fuel with
  | zero => simp [DataW.trod] at hy
  | succ n =>
    have key : cs.length = P.cellsOf t ∧ ∃ ys, fs.toList.mapM (fun f => DataW.trod enc P W 0 sp held n f.type ((cs.drop f.offset).take (P.cellsOf f.type))) = some ys ∧ y.1 = .agg (ys.map (·.1)) := by
      simp only [DataW.trod, hu] at hy
      split at hy
      · rename_i hl
        obtain ⟨ys, h1, h2⟩ := Option.map_eq_some_iff.1 hy
        exact ⟨hl, ys, h1, by rw [← h2]⟩
      · cases hy
    obtain ⟨hl, ys, hy1, hy2⟩ := key
    obtain ⟨x, hx, ho⟩ := h H enc W sp held n cs ys hy1 fun q hq => hw q (by
      rw [hy2]
      simp only [DataW.weights, hu]
      exact hq)
    refine ⟨x, ?_, ho⟩
    rw [List.drop_zero, ← hc, ← hl, List.take_length] at hx
    exact hx
theorem opensW_iso {t : TypeId} {d : Kd α} {ok : α → Prop} (f : β → α) (g : α → β) (hfg : ∀ x, f (g x) = x) (h : OpensW P t d ok) : OpensW P t (Kd.iso d f) (fun x => ok (f x)) := by
  intro H enc W sp held fuel cs y hy hw
  obtain ⟨x, hx, ho⟩ := h H enc W sp held fuel cs y hy hw
  exact ⟨g x, by show d.K W (f (g x)) cs; rw [hfg]; exact hx, by show ok (f (g x)); rw [hfg]; exact ho⟩
theorem okWide_struct {t : TypeId} {fs : Array Field} {r : Reach} {b0 : Nat} {v : Value} {W : World} (hu : P.underlying t = some (.struct fs)) (h : Value.okWide P W r b0 t v) : ∃ cs, v = .agg cs ∧ cs.size = P.cellsOf t := by
  simp only [Value.okWide, hu] at h
  obtain ⟨cs, h1, h2, _⟩ := h
  exact ⟨cs, h1, h2⟩
end
end Go.Proofs.YtimcafohmahapaaO

-- RowDeltaPatches
namespace Go.Proofs.Ytimcafohmahapaa.deltaPatches
open Go.ChangeShapes Go.WideShapes Go.ChangeAt Go.RowKit
open Go.ChangeMaps (open_string shut_string)
set_option linter.unusedVariables false
set_option linter.unusedSimpArgs false
theorem own : ownKnob Try.prog.godebug = none := by kernel_rfl
theorem laidOut : laidOutB Try.prog = true := by kernel_rfl
set_option maxRecDepth 100000 in
theorem lifted (os : Os) (started : os.Started) (H : Type) (enc : TypeId × Value → H) :
    ReturnsInHanded {} Try.checked os 6 .any (Rows.deltaPatchesSpec.pre6 enc Try.prog Try.f6 Rows.deltaPatchesRow.domain false) (Rows.deltaPatchesSpec.post enc Try.prog Try.f6 false true false false) := by
  refine returnsInHanded_of_change_sized (C := Try.checked) own started (by kernel_rfl) Try.func6
    (ChangeSpec.witness6 (enc := enc) (C := Try.checked) false ⟨#[], #[.string ByteArray.empty, .int .i64 0, .slice none 0 0], []⟩ 8 (by kernel_rfl) (by kernel_rfl) (by kernel_rfl) (by kernel_rfl)) ?_
  intro W base args ds gs before hval0 hW hcnd hsz0 _
  have hsz : (DataW.weightsEach Try.prog (Try.f6.params.toList ++ Rows.deltaPatchesSpec.plain.varTypes Try.prog) (ds ++ gs)).all (· ≤ reachBytes) = true := hsz0
  have hval : ∀ (j : Nat) t v, Try.f6.params[j]? = some t → args[j]? = some v → Value.okWide Try.prog W .any base t v := hval0
  have hW' := hW
  obtain ⟨p, q, hA0, hV, rfl, hfz, hnd⟩ := hW
  have hA : DataW.TrodAll enc Try.prog W 0 (fun _ => true) true Try.f6.params.toList args.toList ds p := hA0
  rw [Try.params6] at hA hval hsz
  obtain ⟨v0, vs0, d0, ds0, p0, q0, hargs, rfl, rfl, h0, r0⟩ := trodAll_cons hA
  obtain ⟨v1, vs1, d1, ds1, p1, q1, rfl, rfl, rfl, h1, r1⟩ := trodAll_cons r0
  obtain ⟨v2, vs2, d2, ds2, p2, q2, rfl, rfl, rfl, h2, r2⟩ := trodAll_cons r1
  obtain ⟨rfl, rfl, rfl⟩ := trodAll_nil r2
  obtain rfl : args = #[v0, v1, v2] := by cases args; simp_all
  obtain ⟨rfl, rfl⟩ := trodVars_none hV
  obtain ⟨a0, rfl, rfl, rfl, y0⟩ := open_string Try.underlying9 (hval 0 9 v0 rfl rfl) h0
  have w0 : a0.size ≤ 140737488351232 := by
    have z := sized_string hsz (j := 0) (t := 9) rfl rfl
    rw [Array.length_toList] at z
    exact z
  obtain ⟨a1, rfl, rfl, rfl, w1⟩ := open_int Try.underlying3 (hval 1 3 v1 rfl rfl) h1
  obtain ⟨a2, len2, cap2, rfl⟩ := okWide_slice Try.underlying22 (hval 2 22 v2 rfl rfl)
  have k2 := h2
  have lt2 : ∀ x ∈ p2, x.block < W.heap.size := by obtain ⟨m, hm⟩ := k2; exact DataW.trod_lt m _ _ _ hm
  obtain ⟨x2, ⟨A2, cp2, e2, hc2, hC2⟩, ok2⟩ := Go.Proofs.YtimcafohmahapaaO.opensW_arg (d := (Go.Proofs.YtimcafohmahapaaW.PrintWords.Kd.slice 43 Go.Proofs.Ytimcafohmahapaa.F.k43)) (Go.Proofs.YtimcafohmahapaaO.opensW_slice Try.underlying22 (show Go.Proofs.YtimcafohmahapaaO.OpensW _ _ Go.Proofs.Ytimcafohmahapaa.F.k43 _ from Go.Proofs.YtimcafohmahapaaO.opensW_iso (fun x : Go.Proofs.Ytimcafohmahapaa.F.S43 => (x.f0, x.f1, x.f2)) (fun p => ⟨p.1, p.2.1, p.2.2⟩) (fun _ => rfl) (Go.Proofs.YtimcafohmahapaaO.opensW_struct Try.underlying43 (Go.Proofs.YtimcafohmahapaaO.opensF_cons (Go.Proofs.YtimcafohmahapaaO.Opens.w (Go.Proofs.YtimcafohmahapaaO.opens_bool Try.underlying4)) (by kernel_rfl) (Go.Proofs.YtimcafohmahapaaO.opensF_cons (Go.Proofs.YtimcafohmahapaaO.Opens.w (Go.Proofs.YtimcafohmahapaaO.opens_int Try.underlying3)) (by kernel_rfl) (Go.Proofs.YtimcafohmahapaaO.opensF_one (Go.Proofs.YtimcafohmahapaaO.opensW_string Try.underlying9) (by kernel_rfl)))) (by kernel_rfl))) (by kernel_rfl)) hsz (j := 2) (t := 22) rfl rfl h2
  obtain ⟨rfl, rfl, rfl⟩ := Value.slice.inj (List.cons.inj e2).1
  clear hA0 hval0 hsz0 hsz
  refine (Go.Proofs.YtimcafohmahapaaR.is_tells (Go.Proofs.Ytimcafohmahapaa.F.DeltaPatches_c W a0 a1 a2 cap2 x2 w0 w1 hC2 hc2 ok2)).mono fun e W' ⟨he, bel⟩ => ?_
  subst he
  exact ⟨_, rfl, _, _, _, [], _, [], hW', trodAll_mk1 (shut_bool Try.underlying4 _), (trodAll_cons_mk (shut_string Try.underlying9 y0) (trodAll_cons_mk (shut_int Try.underlying3 w1) (trodAll_cons_mk (Below.trod laidOut (by kernel_rfl) (of_decide_eq_true (by kernel_rfl)) k2 bel lt2) trodAll_mk0))), rfl, bel.frame _, fun h => by cases h⟩
theorem over : Rows.deltaPatchesRow.holds Try.pinned (OpenSpec.ofChange Rows.deltaPatchesSpec) :=
  OpenClaim.holds_of_wide 6 Try.f6 rfl rfl rfl rfl rfl rfl rfl ⟨rfl, rfl, rfl, rfl, rfl⟩ rfl rfl rfl rfl rfl (by kernel_rfl) Try.func6 (by kernel_rfl)
    (of_decide_eq_true (by kernel_rfl)) (by unfold Func.isWrapper; first | (rw [if_pos (by decide +kernel)]; kernel_rfl) | (rw [if_neg (by decide +kernel)]; exact ⟨rfl, rfl⟩))
    (fun os started H enc _ => lifted os started H enc)
end Go.Proofs.Ytimcafohmahapaa.deltaPatches
namespace Go.Proofs.Ytimcafohmahapaa
/-- The row, under a short name, for the claim. -/
theorem deltaPatches_holds : Rows.DeltaPatchesSaid := deltaPatches.over
#print axioms deltaPatches_holds
end Go.Proofs.Ytimcafohmahapaa
