/-
  Plain: the padding of a QR code's data: terminator, zeros to the next codeword, pad codewords.
  No program; conditions stand in each lemma.
-/
import Derived.Test.YtbfcgggcdmafoaaBitsLaws
namespace Go.Qr
open Go Go.Bs
open Go.Proofs.Ytbfcgggcdmafoaa

def padNum (j : Nat) : Int := if j % 2 = 0 then 236 else 17
def padsB (k : Nat) : List Bool := (List.range k).flatMap fun j => lowBits (padNum j) 8
def t1 (n K : Nat) : Nat := min 4 (8 * K - n)
def t2 (n K : Nat) : Nat := (8 * K - (n + t1 n K)) % 8
/-- The bits, the terminator, zeros up to a full codeword. -/
def body (xs : List Bool) (K : Nat) : List Bool := xs ++ List.replicate (t1 xs.length K) false ++ List.replicate (t2 xs.length K) false
def nb (n K : Nat) : Nat := (n + t1 n K + t2 n K) / 8
def full (xs : List Bool) (K : Nat) : List Bool := body xs K ++ padsB (K - nb xs.length K)
def chunk (l : List Bool) (j : Nat) : Int := num ((l.drop (j * 8)).take 8)
def padW (xs : List Bool) (K : Nat) : List Int := (List.range (nb xs.length K)).map (chunk (body xs K)) ++ (List.range (K - nb xs.length K)).map padNum
def padRes (xs : List Bool) (n : Int) : List Int × Int := if n < 0 ∨ 4096 < n then ([], 3) else if 8 * n < (xs.length : Int) then ([], 16) else (padW xs n.toNat, 0)

theorem length_body (xs : List Bool) (K : Nat) : (body xs K).length = xs.length + t1 xs.length K + t2 xs.length K := by simp [body, Nat.add_assoc]
theorem body8 (n K : Nat) (h : n ≤ 8 * K) : n + t1 n K + t2 n K = 8 * nb n K ∧ nb n K ≤ K := by
  unfold nb t2 t1
  omega
theorem padsB_succ (k : Nat) : padsB (k + 1) = padsB k ++ lowBits (padNum k) 8 := by simp [padsB, List.range_succ]
theorem length_padsB (k : Nat) : (padsB k).length = 8 * k := by
  induction k with
  | zero => rfl
  | succ k ih => rw [padsB_succ, List.length_append, ih, length_lowBits]; omega
theorem padNum_succ (j : Nat) : padNum (j + 1) = 253 - padNum j := by unfold padNum; split <;> split <;> omega
theorem padNum_bd (j : Nat) : 17 ≤ padNum j ∧ padNum j ≤ 236 := by unfold padNum; split <;> omega
theorem length_full (xs : List Bool) (K : Nat) (h : xs.length ≤ 8 * K) : (full xs K).length = 8 * K := by
  have := body8 xs.length K h
  unfold full
  rw [List.length_append, length_body, length_padsB]
  omega
theorem length_padW (xs : List Bool) (K : Nat) (h : xs.length ≤ 8 * K) : (padW xs K).length = K := by
  have := body8 xs.length K h
  simp [padW]; omega

theorem padsB_chunk (k j : Nat) (h : j < k) : ((padsB k).drop (j * 8)).take 8 = lowBits (padNum j) 8 := by
  induction k with
  | zero => omega
  | succ k ih =>
    rw [padsB_succ]
    have hl := length_padsB k
    by_cases e : j = k
    · subst e
      rw [List.drop_append_of_le_length (by omega), List.drop_of_length_le (by omega), List.nil_append, List.take_of_length_le (by rw [length_lowBits]; omega)]
    · rw [List.drop_append_of_le_length (by omega), List.take_append_of_le_length (by simp; omega)]
      exact ih (by omega)

theorem chunk_pad (j : Nat) : num (lowBits (padNum j) 8) = padNum j := by
  rw [num_lowBits]
  unfold padNum
  split <;> decide

theorem words_full (xs : List Bool) (K : Nat) (h : xs.length ≤ 8 * K) : wordsTo (full xs K) 8 false K = padW xs K := by
  obtain ⟨h1, h2⟩ := body8 xs.length K h
  have hlb := length_body xs K
  have hlf := length_full xs K h
  apply List.ext_getElem
  · rw [length_padW xs K h]; simp [wordsTo]
  · intro j hj hj'
    have hjK : j < K := by simpa [wordsTo] using hj
    have e1 : (wordsTo (full xs K) 8 false K)[j] = num (((full xs K).drop (j * 8)).take 8) := by
      simp only [wordsTo, List.getElem_map, List.getElem_range]
      rw [pad_long (full xs K) (j * 8) 8 0 false (by omega)]
      simp
    have e2 : (padW xs K)[j] = if j < nb xs.length K then chunk (body xs K) j else padNum (j - nb xs.length K) := by
      simp only [padW, List.getElem_append, List.getElem_map, List.getElem_range, List.length_map, List.length_range]
      split <;> rfl
    rw [e1, e2]
    by_cases hb : j < nb xs.length K
    · rw [if_pos hb]
      unfold chunk full
      rw [List.drop_append_of_le_length (by omega), List.take_append_of_le_length (by simp; omega)]
    · rw [if_neg hb]
      unfold full
      rw [show j * 8 = (body xs K).length + (j - nb xs.length K) * 8 by omega, List.drop_append, List.drop_of_length_le (by omega), List.nil_append, show (body xs K).length + (j - nb xs.length K) * 8 - (body xs K).length = (j - nb xs.length K) * 8 by omega, padsB_chunk _ _ (by omega), chunk_pad]

theorem wordsRes_full (xs : List Bool) (K : Nat) (h : xs.length ≤ 8 * K) : wordsRes (full xs K) 8 false = (padW xs K, 0) := by
  rw [wordsRes_2 (by omega), length_full xs K h]
  have e : (8 * K + (8 : Int).toNat - 1) / (8 : Int).toNat = K := by
    show (8 * K + 8 - 1) / 8 = K
    omega
  rw [e]
  show (wordsTo (full xs K) 8 false K, (0 : Int)) = _
  rw [words_full xs K h]

end Go.Qr
