/-
  Plain: the reading of segments from bits.
  No program; conditions stand in each lemma.
-/
import Derived.Test.YthebfpolijajgaaModePlain
namespace Go.Mode
open Go Go.Bs

/-- The byte of a digit. -/
def chrOf (m : Int) (k : Nat) : UInt8 := if m = 4 then UInt8.ofNat k else alnum.getD k 0
def baseN (m : Int) : Nat := if m = 1 then 10 else if m = 2 then 45 else 256
/-- The n bytes of a number. -/
def ungV (m : Int) (v n : Nat) : List UInt8 := (List.range n).map fun i => chrOf m (v / baseN m ^ (n - 1 - i) % baseN m)
def ungOk (m : Int) (v n : Nat) : Bool := decide (v / baseN m ^ n = 0)
def numN (l : List Bool) : Nat := (num l).toNat

/-- n bytes of data, read from bits. -/
def decD (m : Int) (n : Nat) (bs : List Bool) : Option (List UInt8) :=
  if _ : n = 0 then some []
  else if ungOk m (numN (bs.take (dsize m (min n (unitN m))))) (min n (unitN m)) then
    (decD m (n - min n (unitN m)) (bs.drop (dsize m (min n (unitN m))))).map (ungV m (numN (bs.take (dsize m (min n (unitN m))))) (min n (unitN m)) ++ ·)
  else none
termination_by n
decreasing_by have := unit_pos m; omega

/-- What is read: the data, the error's number, the bits that are left. -/
def readRes (m : Int) (k : Nat) (bs : List Bool) : List UInt8 × Int × List Bool :=
  if bs.length < cntB m k then ([], 10, [])
  else if (bs.drop (cntB m k)).length < dsize m (numN (bs.take (cntB m k))) then ([], 10, [])
  else match decD m (numN (bs.take (cntB m k))) (bs.drop (cntB m k)) with
    | none => ([], 9, [])
    | some d => (d, 0, (bs.drop (cntB m k)).drop (dsize m (numN (bs.take (cntB m k)))))

theorem cntB_pos (m : Int) (k : Nat) : 8 ≤ cntB m k := by unfold cntB; split <;> (try split) <;> (try split) <;> omega

theorem readRes_left (m : Int) (k : Nat) (bs : List Bool) : (readRes m k bs).2.2.length ≤ bs.length := by
  unfold readRes
  split
  · simp
  · split
    · simp
    · split
      · simp
      · simp

/-- The segments that are read, in front of them l. -/
def decL (k : Nat) (l : List (Int × List UInt8)) (bs : List Bool) : List (Int × List UInt8) × Int :=
  if _ : bs.length < 4 then (if num bs = 0 then (l, 0) else ([], 22))
  else if num (bs.take 4) = 0 then (l, 0)
  else if okMode (num (bs.take 4)) = false then ([], 22)
  else if 4096 ≤ l.length then ([], 4)
  else if (readRes (num (bs.take 4)) k (bs.drop 4)).2.1 ≠ 0 then ([], (readRes (num (bs.take 4)) k (bs.drop 4)).2.1)
  else decL k (l ++ [(num (bs.take 4), (readRes (num (bs.take 4)) k (bs.drop 4)).1)]) (readRes (num (bs.take 4)) k (bs.drop 4)).2.2
termination_by bs.length
decreasing_by
  have h1 := readRes_left (num (bs.take 4)) k (bs.drop 4)
  have h : ¬ bs.length < 4 := by assumption
  simp at h1 h
  omega
def decRes (bs : List Bool) (c : Int) : List (Int × List UInt8) × Int :=
  if c < 0 ∨ 2 < c then ([], 1) else if 1048576 < bs.length then ([], 4) else decL c.toNat [] bs

theorem decD_zero (m : Int) (bs : List Bool) : decD m 0 bs = some [] := by unfold decD; simp
theorem decD_bad (m : Int) (n : Nat) (bs : List Bool) (h : 0 < n) (hb : ungOk m (numN (bs.take (dsize m (min n (unitN m))))) (min n (unitN m)) = false) : decD m n bs = none := by
  rw [decD, dif_neg (by omega), hb]; rfl
theorem decD_ok (m : Int) (n : Nat) (bs : List Bool) (h : 0 < n) (hb : ungOk m (numN (bs.take (dsize m (min n (unitN m))))) (min n (unitN m)) = true) :
    decD m n bs = (decD m (n - min n (unitN m)) (bs.drop (dsize m (min n (unitN m))))).map (ungV m (numN (bs.take (dsize m (min n (unitN m))))) (min n (unitN m)) ++ ·) := by
  rw [decD, dif_neg (by omega), hb]; rfl
theorem length_ungV (m : Int) (v n : Nat) : (ungV m v n).length = n := by simp [ungV]
theorem decD_len (m : Int) : ∀ (n : Nat) (bs : List Bool) (d : List UInt8), decD m n bs = some d → d.length = n := by
  intro n
  induction n using Nat.strongRecOn with
  | ind n ih =>
    intro bs d hd
    have hu := unit_pos m
    by_cases h0 : n = 0
    · subst h0; rw [decD_zero] at hd; cases hd; rfl
    · cases hb : ungOk m (numN (bs.take (dsize m (min n (unitN m))))) (min n (unitN m))
      · rw [decD_bad m n bs (by omega) hb] at hd; cases hd
      · rw [decD_ok m n bs (by omega) hb] at hd
        obtain ⟨d', hd', rfl⟩ := Option.map_eq_some_iff.1 hd
        rw [List.length_append, length_ungV, ih _ (by omega) _ _ hd']
        omega
theorem numN_num (l : List Bool) : num l = (numN l : Int) := by
  unfold numN
  have := (num_bd l).1
  omega
theorem numN_lt (l : List Bool) : numN l < 2 ^ l.length := by
  have := (num_bd l).2
  rw [numN_num] at this
  have e : (2 : Int) ^ l.length = ((2 ^ l.length : Nat) : Int) := by rw [Int.natCast_pow]; rfl
  rw [e] at this
  omega
theorem baseN_eq (m : Int) : baseI m = (baseN m : Int) := by unfold baseI baseN; split <;> (try split) <;> rfl
theorem baseN_pos (m : Int) : 1 ≤ baseN m ∧ baseN m ≤ 256 := by unfold baseN; split <;> (try split) <;> omega

end Go.Mode
