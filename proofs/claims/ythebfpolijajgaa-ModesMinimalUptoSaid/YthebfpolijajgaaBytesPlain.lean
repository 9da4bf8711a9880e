/-
  Plain lemmas: how the bytes that bits form grow bit by bit.
  No program; conditions stand in each lemma.
-/
import Derived.Test.YthebfpolijajgaaBitsE
namespace Go.Proofs.Ythebfpolijajgaa
open Go.RowKit Go.Bs

def b2 (b : Bool) : Int := if b then 1 else 0
theorem b2_bd (b : Bool) : 0 ≤ b2 b ∧ b2 b ≤ 1 := by cases b <;> decide

theorem pad8 (xs : List Bool) (p : Nat) : pad xs p 8 false = [xs.getD p false, xs.getD (p + 1) false, xs.getD (p + 2) false, xs.getD (p + 3) false, xs.getD (p + 4) false, xs.getD (p + 5) false, xs.getD (p + 6) false, xs.getD (p + 7) false] := by
  have h : ∀ j, j < 8 → (pad xs p 8 false)[j]? = some (xs.getD (p + j) false) := by
    intro j hj
    have hl : j < (pad xs p 8 false).length := by rw [length_pad]; exact hj
    rw [List.getElem?_eq_getElem hl]
    by_cases hin : p + j < xs.length
    · rw [pad_in xs p 8 false j hj hin, List.getD, List.getElem?_eq_getElem hin]; rfl
    · rw [pad_out xs p 8 false j hj (by omega), List.getD, List.getElem?_eq_none (by omega)]; rfl
  apply List.ext_getElem?
  intro i
  rcases (show i = 0 ∨ i = 1 ∨ i = 2 ∨ i = 3 ∨ i = 4 ∨ i = 5 ∨ i = 6 ∨ i = 7 ∨ 8 ≤ i by omega) with rfl | rfl | rfl | rfl | rfl | rfl | rfl | rfl | h8
  any_goals (rw [h _ (by omega)]; rfl)
  rw [List.getElem?_eq_none (by rw [length_pad]; exact h8), List.getElem?_eq_none (by simpa using h8)]

theorem num_pad8 (xs : List Bool) (p : Nat) : num (pad xs p 8 false) = 128 * b2 (xs.getD p false) + 64 * b2 (xs.getD (p + 1) false) + 32 * b2 (xs.getD (p + 2) false) + 16 * b2 (xs.getD (p + 3) false)
    + 8 * b2 (xs.getD (p + 4) false) + 4 * b2 (xs.getD (p + 5) false) + 2 * b2 (xs.getD (p + 6) false) + b2 (xs.getD (p + 7) false) := by
  rw [pad8]
  simp only [num, List.foldl_cons, List.foldl_nil, b2]
  omega

theorem getD_take (xs : List Bool) (k i : Nat) : (xs.take k).getD i false = if i < k then xs.getD i false else false := by
  simp only [List.getD, List.getElem?_take]
  split <;> rfl

theorem take_b2 (xs : List Bool) (k i : Nat) (h : k < xs.length) : b2 ((xs.take (k + 1)).getD i false) = b2 ((xs.take k).getD i false) + if i = k then b2 xs[k] else 0 := by
  rw [getD_take, getD_take]
  by_cases h1 : i < k
  · rw [if_pos (by omega), if_pos h1, if_neg (by omega)]; omega
  · by_cases h2 : i = k
    · subst h2; rw [if_pos (by omega), if_neg h1, if_pos rfl, List.getD, List.getElem?_eq_getElem h]; simp [b2]
    · rw [if_neg (by omega), if_neg h1, if_neg h2]; omega

theorem pad_other (xs : List Bool) (k j : Nat) (h : k < xs.length) (hj : j ≠ k / 8) : num (pad (xs.take (k + 1)) (j * 8) 8 false) = num (pad (xs.take k) (j * 8) 8 false) := by
  rw [num_pad8, num_pad8]
  simp only [take_b2 xs k _ h]
  simp only [show ¬ j * 8 = k by omega, show ¬ j * 8 + 1 = k by omega, show ¬ j * 8 + 2 = k by omega, show ¬ j * 8 + 3 = k by omega, show ¬ j * 8 + 4 = k by omega, show ¬ j * 8 + 5 = k by omega, show ¬ j * 8 + 6 = k by omega, show ¬ j * 8 + 7 = k by omega, if_false]
  omega

theorem take_b2_out (xs : List Bool) (k i : Nat) (h : k ≤ i) : b2 ((xs.take k).getD i false) = 0 := by
  rw [getD_take, if_neg (by omega)]; rfl

theorem pad_same (xs : List Bool) (k : Nat) (h : k < xs.length) : num (pad (xs.take (k + 1)) (k / 8 * 8) 8 false) = num (pad (xs.take k) (k / 8 * 8) 8 false) + b2 xs[k] * 2 ^ (7 - k % 8) ∧
    num (pad (xs.take k) (k / 8 * 8) 8 false) % 2 ^ (8 - k % 8) = 0 := by
  obtain ⟨j, hj⟩ : ∃ j, j = k / 8 := ⟨_, rfl⟩
  obtain ⟨r, hr⟩ : ∃ r, r = k % 8 := ⟨_, rfl⟩
  rw [← hj, ← hr, num_pad8, num_pad8]
  simp only [take_b2 xs k _ h]
  have hb := b2_bd xs[k]
  generalize b2 xs[k] = u at hb ⊢
  rcases (show r = 0 ∨ r = 1 ∨ r = 2 ∨ r = 3 ∨ r = 4 ∨ r = 5 ∨ r = 6 ∨ r = 7 by omega) with rfl | rfl | rfl | rfl | rfl | rfl | rfl | rfl
  all_goals
    have z0 : k ≤ j * 8 ∨ ¬ k ≤ j * 8 := by omega
    have z1 := fun hh : k ≤ j * 8 => take_b2_out xs k (j * 8) hh
    have z2 := fun hh : k ≤ j * 8 + 1 => take_b2_out xs k (j * 8 + 1) hh
    have z3 := fun hh : k ≤ j * 8 + 2 => take_b2_out xs k (j * 8 + 2) hh
    have z4 := fun hh : k ≤ j * 8 + 3 => take_b2_out xs k (j * 8 + 3) hh
    have z5 := fun hh : k ≤ j * 8 + 4 => take_b2_out xs k (j * 8 + 4) hh
    have z6 := fun hh : k ≤ j * 8 + 5 => take_b2_out xs k (j * 8 + 5) hh
    have z7 := fun hh : k ≤ j * 8 + 6 => take_b2_out xs k (j * 8 + 6) hh
    have z8 := fun hh : k ≤ j * 8 + 7 => take_b2_out xs k (j * 8 + 7) hh
    generalize b2 ((xs.take k).getD (j * 8) false) = t0 at *
    generalize b2 ((xs.take k).getD (j * 8 + 1) false) = t1 at *
    generalize b2 ((xs.take k).getD (j * 8 + 2) false) = t2 at *
    generalize b2 ((xs.take k).getD (j * 8 + 3) false) = t3 at *
    generalize b2 ((xs.take k).getD (j * 8 + 4) false) = t4 at *
    generalize b2 ((xs.take k).getD (j * 8 + 5) false) = t5 at *
    generalize b2 ((xs.take k).getD (j * 8 + 6) false) = t6 at *
    generalize b2 ((xs.take k).getD (j * 8 + 7) false) = t7 at *
    repeat rw [if_pos (by omega)]
    repeat rw [if_neg (by omega)]
    try rw [if_pos (by omega)]
    repeat rw [if_neg (by omega)]
    refine ⟨by omega, ?_⟩
    omega

end Go.Proofs.Ythebfpolijajgaa
