/- A list of texts that was written is read back: the plain law under NumOwn. -/
import Derived.Test.YtoolcamnmefpgaaNumOwnC
namespace Go.Proofs.Ytoolcamnmefpgaa.F
open Go Go.RowKit Go.Proofs.YtoolcamnmefpgaaW.PrintWords Go.Proofs.YtoolcamnmefpgaaW.PrintLast Go.Proofs.YtoolcamnmefpgaaW.PrintMore Go.Proofs.YtoolcamnmefpgaaM Go.Proofs.YtoolcamnmefpgaaR
set_option linter.unusedSimpArgs false
set_option linter.unusedVariables false
set_option maxRecDepth 100000
theorem getT_put (a b : List Int) (s : ByteArray) (most : Int) (h : s.size < 18446744073709551616) (hm : (s.size : Int) ≤ max most 0) : getT (a ++ textL s ++ b) a.length most = (bytesOf s, ((a.length + (textL s).length : Nat) : Int), 0) := by
  have e : a ++ textL s ++ b = a ++ putL s.size ++ (bytesOf s ++ b) := by simp [textL]
  have e2 : a ++ textL s ++ b = (a ++ putL s.size) ++ bytesOf s ++ b := by simp [textL]
  have hl : (textL s).length = (putL s.size).length + s.size := by simp [textL, bytesOf_length]
  have hg := getL_put a (bytesOf s ++ b) s.size h
  rw [← e] at hg
  unfold getT
  simp only [hg]
  have hlen : (a ++ textL s ++ b).length = a.length + (putL s.size).length + s.size + b.length := by simp [hl]; omega
  rw [if_neg (by simp), if_neg (by omega), if_neg (by omega)]
  have e3 : (((a.length + (putL s.size).length : Nat) : Int) + (s.size : Int)).toNat = ((a ++ putL s.size) ++ bytesOf s).length := by simp [bytesOf_length]; omega
  have e4 : (((a.length + (putL s.size).length : Nat) : Int)).toNat = (a ++ putL s.size).length := by simp; omega
  rw [e3, e4, e2, List.take_left, List.drop_left]
  refine Prod.ext rfl (Prod.ext ?_ rfl)
  simp only
  omega
theorem getLs_put (most : Int) : ∀ (ss : List ByteArray) (a b : List Int) (acc : List ByteArray), (∀ s ∈ ss, s.size < 18446744073709551616 ∧ (s.size : Int) ≤ max most 0) → getLs (a ++ ss.flatMap textL ++ b) most ss.length a.length acc = (acc ++ ss, ((a.length + (ss.flatMap textL).length : Nat) : Int), 0)
  | [], a, b, acc, _ => by simp [getLs]
  | s :: ss, a, b, acc, h => by
    have e : a ++ (s :: ss).flatMap textL ++ b = a ++ textL s ++ (ss.flatMap textL ++ b) := by simp
    have e2 : a ++ (s :: ss).flatMap textL ++ b = (a ++ textL s) ++ ss.flatMap textL ++ b := by simp
    have hs := h s (by simp)
    have hg := getT_put a (ss.flatMap textL ++ b) s most hs.1 hs.2
    rw [← e] at hg
    rw [List.length_cons]
    simp only [getLs, hg]
    rw [if_neg (by simp), str_bytesOf, e2]
    have ih := getLs_put most ss (a ++ textL s) b (acc ++ [s]) (fun r hr => h r (List.mem_cons_of_mem _ hr))
    rw [List.length_append] at ih
    rw [ih]
    refine Prod.ext (by simp) (Prod.ext ?_ rfl)
    simp only [List.flatMap_cons, List.length_append]
    omega
theorem getLL_put (l : List Int) (ss : List ByteArray) (hn : ss.length ≤ 300) (hs : sizes ss ≤ 20000) : getLL (l ++ listL ss) l.length 300 20000 = (ss, ((l ++ listL ss).length : Int), 0) := by
  have e : l ++ listL ss = l ++ putL ss.length ++ ss.flatMap textL := by simp [listL]
  have hg := getL_put l (ss.flatMap textL) ss.length (by omega)
  rw [← e] at hg
  unfold getLL
  simp only [hg]
  rw [if_neg (by simp), if_neg (by omega), Int.toNat_natCast, e]
  have h := getLs_put 20000 ss (l ++ putL ss.length) [] [] (fun s hm => by have := size_le hm; omega)
  rw [List.append_nil, List.length_append] at h
  rw [h]
  refine Prod.ext (by simp) (Prod.ext ?_ rfl)
  simp only [List.length_append]
end Go.Proofs.Ytoolcamnmefpgaa.F
