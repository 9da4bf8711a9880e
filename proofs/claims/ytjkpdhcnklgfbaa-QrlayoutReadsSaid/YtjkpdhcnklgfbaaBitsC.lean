/-
  Contracts of bits.Weight, barscanref01.Weight, bits.Distance, barscanref01.Distance, barscanref01.Ints.
  Conditions: the slices' cells are those of the lists; lengths are bounded.
-/
import Derived.Test.YtjkpdhcnklgfbaaBitsB
import Derived.Test.YtjkpdhcnklgfbaaInts
namespace Go.Proofs.Ytjkpdhcnklgfbaa
open Go.RowKit Go.Bs

/-- How many of the bits are set. -/
def cnt (l : List Bool) : Int := (l.filter id).length
theorem cnt_bd (l : List Bool) : 0 ≤ cnt l ∧ cnt l ≤ l.length := by
  unfold cnt; exact ⟨by omega, by have := List.length_filter_le id l; omega⟩
theorem cnt_take (l : List Bool) (k : Nat) (h : k < l.length) : cnt (l.take (k + 1)) = cnt (l.take k) + if l[k] then 1 else 0 := by
  unfold cnt
  rw [List.take_succ_eq_append_getElem h, List.filter_append, List.length_append]
  cases l[k] <;> simp
theorem cnt_take_bd (l : List Bool) (k : Nat) : 0 ≤ cnt (l.take k) ∧ cnt (l.take k) ≤ k := by
  have := cnt_bd (l.take k); have := List.length_take_le k l; omega

/-- Where two lists of bits differ. -/
def diffs (xs ys : List Bool) : List Bool := List.zipWith (fun a b => !a == b) xs ys
theorem length_diffs (xs ys : List Bool) (h : xs.length = ys.length) : (diffs xs ys).length = xs.length := by simp [diffs, h]
theorem diffs_at (xs ys : List Bool) (k : Nat) (h : k < xs.length) (h' : k < ys.length) : (diffs xs ys)[k]'(by simp [diffs]; omega) = (!xs[k] == ys[k]) := by simp [diffs]
def bdistRes (xs ys : List Bool) : Int × Int := if xs.length = ys.length then (cnt (diffs xs ys), 0) else (0, 7)
theorem cnt_diffs (xs ys : List Bool) (k : Nat) (h : k < xs.length) (h' : k < ys.length) :
    cnt ((diffs xs ys).take (k + 1)) = cnt ((diffs xs ys).take k) + if (!xs[k] == ys[k]) = true then 1 else 0 := by
  rw [cnt_take _ _ (by simp [diffs]; omega), diffs_at xs ys k h h']

end Go.Proofs.Ytjkpdhcnklgfbaa
