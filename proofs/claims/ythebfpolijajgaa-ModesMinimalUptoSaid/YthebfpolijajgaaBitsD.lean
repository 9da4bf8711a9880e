/-
  Contracts of bits.Words, barscanref01.Words, bits.FromWords, barscanref01.FromWords.
  Conditions: the slices' cells are those of the lists; lengths are bounded.
-/
import Derived.Test.YthebfpolijajgaaBitsC
namespace Go.Proofs.Ythebfpolijajgaa
open Go.RowKit Go.Bs


/-- The bits of a word: those from a place on, filled up. -/
def pad (xs : List Bool) (p size : Nat) (fill : Bool) : List Bool := (xs.drop p ++ List.replicate size fill).take size
theorem length_pad (xs : List Bool) (p size : Nat) (fill : Bool) : (pad xs p size fill).length = size := by simp [pad]
theorem pad_in (xs : List Bool) (p size : Nat) (fill : Bool) (j : Nat) (h : j < size) (h' : p + j < xs.length) : (pad xs p size fill)[j]'(by rw [length_pad]; exact h) = xs[p + j] := by
  unfold pad; rw [List.getElem_take, List.getElem_append_left (by simp; omega)]; simp
theorem pad_out (xs : List Bool) (p size : Nat) (fill : Bool) (j : Nat) (h : j < size) (h' : xs.length ≤ p + j) : (pad xs p size fill)[j]'(by rw [length_pad]; exact h) = fill := by
  unfold pad; rw [List.getElem_take, List.getElem_append_right (by simp; omega)]; simp
theorem pad_take (xs : List Bool) (p size : Nat) (fill : Bool) (m : Nat) (h : m ≤ size) (h' : p + m ≤ xs.length) : (pad xs p size fill).take m = (xs.drop p).take m := by
  unfold pad; rw [List.take_take, List.take_append_of_le_length (by simp; omega)]; congr 1; omega

def wordsTo (xs : List Bool) (size : Nat) (fill : Bool) (k : Nat) : List Int := (List.range k).map fun j => num (pad xs (j * size) size fill)
theorem wordsTo_succ (xs : List Bool) (size : Nat) (fill : Bool) (k : Nat) : wordsTo xs size fill (k + 1) = wordsTo xs size fill k ++ [num (pad xs (k * size) size fill)] := by simp [wordsTo, List.range_succ]
def wordsRes (xs : List Bool) (size : Int) (fill : Bool) : List Int × Int :=
  if size < 1 ∨ 62 < size then ([], 3) else (wordsTo xs size.toNat fill ((xs.length + size.toNat - 1) / size.toNat), 0)
theorem wordsRes_1 {xs : List Bool} {size : Int} {fill : Bool} (h : size < 1 ∨ 62 < size) : wordsRes xs size fill = ([], 3) := by unfold wordsRes; rw [if_pos h]
theorem wordsRes_2 {xs : List Bool} {size : Int} {fill : Bool} (h : ¬ (size < 1 ∨ 62 < size)) :
    wordsRes xs size fill = (wordsTo xs size.toNat fill ((xs.length + size.toNat - 1) / size.toNat), 0) := by unfold wordsRes; rw [if_neg h]

/-- The rounds of a loop by steps of 'size': k of them are done. -/
theorem div_up_iff (n s k : Nat) (hs : 0 < s) (h1 : n ≤ k * s) (h2 : k = 0 ∨ (k - 1) * s < n) : k = (n + s - 1) / s := by
  symm
  rcases h2 with rfl | h2
  · simp at h1; subst h1; simp; omega
  · obtain ⟨j, rfl⟩ : ∃ j, k = j + 1 := ⟨k - 1, by rcases k with _ | k <;> simp at *; omega⟩
    simp only [Nat.add_sub_cancel] at h2
    rw [Nat.div_eq_iff hs, Nat.add_mul] at *
    omega

theorem num_pad_bd (l : List Bool) (h : l.length ≤ 62) (k : Nat) (hk : k < l.length) : 0 ≤ num (l.take k) ∧ num (l.take k) < 2305843009213693952 :=
  num_take_bd l k (by omega)

def okw (q : Nat) (v : Int) : Bool := decide (0 ≤ v) && decide (v < 2 ^ q)
def fromTo (l : List Int) (q k : Nat) : List Bool := (l.take k).flatMap fun v => lowBits v q
theorem fromTo_succ (l : List Int) (q k : Nat) (h : k < l.length) : fromTo l q (k + 1) = fromTo l q k ++ lowBits l[k] q := by
  unfold fromTo; rw [List.take_succ_eq_append_getElem h, List.flatMap_append]; simp
theorem length_fromTo (l : List Int) (q k : Nat) (h : k ≤ l.length) : (fromTo l q k).length = k * q := by
  induction k with
  | zero => simp [fromTo]
  | succ k ih => rw [fromTo_succ l q k (by omega), List.length_append, ih (by omega), length_lowBits, Nat.add_mul]; omega
def fromRes (l : List Int) (size : Int) : List Bool × Int :=
  if size < 1 ∨ 62 < size then ([], 3) else if 1048576 / size < (l.length : Int) then ([], 4) else if l.all (okw size.toNat) then (fromTo l size.toNat l.length, 0) else ([], 3)
theorem fromRes_1 {l : List Int} {size : Int} (h : size < 1 ∨ 62 < size) : fromRes l size = ([], 3) := by unfold fromRes; rw [if_pos h]
theorem fromRes_2 {l : List Int} {size : Int} (h : ¬ (size < 1 ∨ 62 < size)) (h2 : 1048576 / size < (l.length : Int)) : fromRes l size = ([], 4) := by unfold fromRes; rw [if_neg h, if_pos h2]
theorem fromRes_3 {l : List Int} {size : Int} (h : ¬ (size < 1 ∨ 62 < size)) (h2 : ¬ 1048576 / size < (l.length : Int)) (h3 : l.all (okw size.toNat) = true) : fromRes l size = (fromTo l size.toNat l.length, 0) := by
  unfold fromRes; rw [if_neg h, if_neg h2, if_pos h3]
theorem fromRes_4 {l : List Int} {size : Int} (h : ¬ (size < 1 ∨ 62 < size)) (h2 : ¬ 1048576 / size < (l.length : Int)) (k : Nat) (hk : k < l.length) (h3 : okw size.toNat l[k] = false) : fromRes l size = ([], 3) := by
  unfold fromRes; rw [if_neg h, if_neg h2, if_neg]
  intro h4
  rw [List.all_eq_true] at h4
  rw [h4 _ (List.getElem_mem hk)] at h3
  cases h3
theorem okw_yes {q : Nat} {v : Int} (h : okw q v = true) : 0 ≤ v ∧ v < 2 ^ q := by simpa [okw] using h
theorem okw_no {q : Nat} {v : Int} (h : okw q v = false) : v < 0 ∨ 2 ^ q ≤ v := by
  unfold okw at h; rw [Bool.and_eq_false_iff] at h; simp at h; exact h
theorem mul_le_of_div (n q : Nat) (h : (n : Int) ≤ 1048576 / (q : Int)) (hq : 0 < q) : n * q ≤ 1048576 := by
  have h1 : n ≤ 1048576 / q := by
    have : ((1048576 / q : Nat) : Int) = 1048576 / (q : Int) := by rw [Int.natCast_ediv]; rfl
    omega
  exact (Nat.le_div_iff_mul_le hq).1 h1
theorem div_pow_zero {v : Int} {q : Nat} (h0 : 0 ≤ v) (h : v < 2 ^ q) : v / 2 ^ q = 0 := Int.ediv_eq_zero_of_lt h0 h
theorem div_pow_pos {v : Int} {q : Nat} (h : 2 ^ q ≤ v) : v / 2 ^ q ≠ 0 := by
  have hp : (0 : Int) < 2 ^ q := Int.pow_pos (by decide)
  have := (Int.le_ediv_iff_mul_le hp (a := 1) (b := v)).2 (by omega)
  omega

end Go.Proofs.Ythebfpolijajgaa
