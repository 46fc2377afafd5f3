/- Put, PutText, PutList: the row that each returns is its own. And what a store into another row leaves. -/
import Derived.Test.YtoolcamnmefpgaaNumLl
import Derived.Test.YtoolcamnmefpgaaOwn
namespace Go.Proofs.Ytoolcamnmefpgaa.F
open Go Go.RowKit Go.Proofs.YtoolcamnmefpgaaW.PrintWords Go.Proofs.YtoolcamnmefpgaaW.PrintLast Go.Proofs.YtoolcamnmefpgaaW.PrintMore Go.Proofs.YtoolcamnmefpgaaM Go.Proofs.YtoolcamnmefpgaaR
set_option linter.unusedSimpArgs false
set_option linter.unusedVariables false
set_option maxRecDepth 100000
/-- a row of bytes made behind a mark -/
def Own (base : Nat) (l : List Int) : World → Value → Prop := fun w v => w.ownsRow base 5 1 v l.length (nums .u8 l)
theorem Own.stable (base : Nat) (l : List Int) : ∀ w w' v, Grew w w' → Own base l w v → Own base l w' v := fun _ _ _ hg h => pw_own_below h hg
theorem own_of_R8 {w : World} {base : Nat} {ok : Nat → Prop} {v : Value} {l : List Int} (h : Kd.R (Kd.int .u8) 5 w base ok v l) : Own base l w v := Kd.own_of_R h
theorem put_o (A : Option Addr) (c : Nat) (l : List Int) (n : Nat) (w : World) (hr : Kd.C (Kd.int .u8) w A l.length l) (hc : l.length ≤ c) (h : n < 18446744073709551616) (hl : l.length ≤ 140737488351232) :
    Calls Try.prog 12 #[.slice A l.length c, .int .u64 n] w (Tells w (Own w.heap.size (l ++ putL n))) :=
  (num_Put.calls 10 A c l n _ w hr hc (put_f 10 n l (by omega) h hl)).mono fun e w' ⟨v, he, hR, hb⟩ => ⟨v, he, own_of_R8 hR, hb⟩
theorem putT_o (A : Option Addr) (c : Nat) (l : List Int) (s : ByteArray) (w : World) (hr : Kd.C (Kd.int .u8) w A l.length l) (hc : l.length ≤ c) (hl : l.length ≤ 100000) (hs : s.size ≤ 100000) :
    Calls Try.prog 19 #[.slice A l.length c, .string s] w (Tells w (Own w.heap.size (l ++ textL s))) := by
  refine (num_PutText.calls 10 A c l s (l ++ textL s) w hr hc ?_).mono fun e w' ⟨v, he, hR, hb⟩ => ⟨v, he, own_of_R8 hR, hb⟩
  unfold num_PutText.f
  have := putL_ten (n := s.size) (by omega)
  rw [own_f l (by omega), obs, u64_wraps _ (by omega) (by omega), lay_f 10 s.size l (by omega) (by omega) (by omega), obs, if_pos (by simp; omega)]
  simp [textL]
theorem putLL_o (A : Option Addr) (c : Nat) (l : List Int) (A1 : Option Addr) (c1 : Nat) (ss : List ByteArray) (w : World) (hr : Kd.C (Kd.int .u8) w A l.length l) (hc : l.length ≤ c) (hr1 : Kd.C Kd.string w A1 ss.length ss) (hc1 : ss.length ≤ c1) (hl : l.length ≤ 100000) (hs : sizes ss ≤ 20000) (hn : ss.length ≤ 300) :
    Calls Try.prog 23 #[.slice A l.length c, .slice A1 ss.length c1] w (Tells w (Own w.heap.size (l ++ listL ss))) := by
  refine (num_PutList.calls 400 A c l A1 c1 ss (l ++ listL ss) w hr hc hr1 hc1 ?_).mono fun e w' ⟨v, he, hR, hb⟩ => ⟨v, he, own_of_R8 hR, hb⟩
  unfold num_PutList.f
  have := putL_ten (n := ss.length) (by omega)
  rw [own_f l (by omega), obs, u64_wraps _ (by omega) (by omega), lay_f 400 ss.length l (by omega) (by omega) (by omega), obs]
  have := list_l0 ss hs hn ss [] 400 (l ++ putL ss.length) rfl (by omega) (by simp; omega)
  rw [show (([] : List ByteArray).length : Int) = 0 from rfl] at this
  rw [this]; simp [listL]
end Go.Proofs.Ytoolcamnmefpgaa.F
