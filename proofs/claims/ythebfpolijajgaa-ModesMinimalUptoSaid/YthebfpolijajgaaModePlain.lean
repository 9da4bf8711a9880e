/-
  Plain: the modes of QR codes: which bytes fit, the numbers of bits, the bits of segments.
  No program; conditions stand in each lemma.
-/
import Derived.Test.YthebfpolijajgaaNum
import Derived.Lib.Bytealg
namespace Go.Mode
open Go Go.Bs

def okMode (m : Int) : Bool := m == 1 || m == 2 || m == 4
/-- The bits of a count. -/
def cntB (m : Int) (k : Nat) : Nat := if m = 1 then 10 + 2 * k else if m = 2 then 9 + 2 * k else if k = 0 then 8 else 16
/-- The characters of the alphanumeric mode, by their values. -/
def alnum : List UInt8 := (List.range 10).map (fun i => UInt8.ofNat (48 + i)) ++ (List.range 26).map (fun i => UInt8.ofNat (65 + i)) ++ [32, 36, 37, 42, 43, 45, 46, 47, 58]
/-- The value of a character, or -1. -/
def placeI (c : UInt8) : Int := Lib.indexByte alnum c
def fitsB (m : Int) (c : UInt8) : Bool := if m = 1 then decide (48 ≤ c.toNat) && decide (c.toNat ≤ 57) else if m = 2 then decide (0 ≤ placeI c) else m == 4
def unitN (m : Int) : Nat := if m = 1 then 3 else if m = 2 then 2 else 1
def baseI (m : Int) : Int := if m = 1 then 10 else if m = 2 then 45 else 256
/-- The bits of n bytes of data. -/
def dsize (m : Int) (n : Nat) : Nat := if m = 1 then 10 * (n / 3) + (if n % 3 = 0 then 0 else if n % 3 = 1 then 4 else 7) else if m = 2 then 11 * (n / 2) + 6 * (n % 2) else 8 * n
def segB (m : Int) (k n : Nat) : Nat := 4 + cntB m k + dsize m n

def total (k : Nat) (l : List (Int × List UInt8)) : Nat := (l.map fun p => segB p.1 k p.2.length).foldl (· + ·) 0
def bitsRes (l : List (Int × List UInt8)) (c : Int) : Int × Int :=
  if c < 0 ∨ 2 < c then (0, 1)
  else if (l.all fun p => okMode p.1) = false then (0, 1)
  else if 4096 < l.length then (0, 4)
  else if (l.all fun p => decide (p.2.length < 2 ^ cntB p.1 c.toNat)) = false then (0, 4)
  else if (l.all fun p => p.2.all (fitsB p.1)) = false then (0, 6)
  else if 1048576 < total c.toNat l then (0, 4)
  else (total c.toNat l, 0)

def valueI (m : Int) (c : UInt8) : Int := if m = 4 then c.toNat else placeI c
def gval (m : Int) (g : List UInt8) : Int := g.foldl (fun v c => v * baseI m + valueI m c) 0
/-- The bits of data, group after group. -/
def encD (m : Int) (data : List UInt8) : List Bool :=
  match data with
  | [] => []
  | c :: r => lowBits (gval m ((c :: r).take (unitN m))) (dsize m (min (r.length + 1) (unitN m))) ++ encD m (r.drop (unitN m - 1))
termination_by data.length
decreasing_by simp; omega
def encS (k : Nat) (p : Int × List UInt8) : List Bool := lowBits p.1 4 ++ (lowBits p.2.length (cntB p.1 k) ++ encD p.1 p.2)
def encRes (l : List (Int × List UInt8)) (c : Int) : List Bool × Int := if (bitsRes l c).2 = 0 then (l.flatMap (encS c.toNat), 0) else ([], (bitsRes l c).2)

theorem unit_pos (m : Int) : 1 ≤ unitN m := by unfold unitN; split <;> (try split) <;> omega
theorem encD_step (m : Int) (data : List UInt8) (h : data ≠ []) : encD m data = lowBits (gval m (data.take (unitN m))) (dsize m (min data.length (unitN m))) ++ encD m (data.drop (unitN m)) := by
  cases data with
  | nil => exact absurd rfl h
  | cons c r =>
    rw [encD]
    have hu := unit_pos m
    obtain ⟨u, hu'⟩ : ∃ u, unitN m = u + 1 := ⟨unitN m - 1, by omega⟩
    rw [hu']
    rfl

/-- Sizes add up over full groups. -/
theorem dsize_add (m : Int) (hm : okMode m = true) (a : Nat) : dsize m (unitN m + a) = dsize m (unitN m) + dsize m a := by
  unfold okMode at hm
  simp only [Bool.or_eq_true, beq_iff_eq] at hm
  rcases hm with (rfl | rfl) | rfl <;> simp [dsize, unitN] <;> (try split) <;> (try split) <;> omega

theorem length_encD (m : Int) (hm : okMode m = true) : ∀ (n : Nat) (data : List UInt8), data.length = n → (encD m data).length = dsize m n := by
  intro n
  induction n using Nat.strongRecOn with
  | ind n ih =>
    intro data hd
    by_cases h : data = []
    · subst h
      simp at hd
      subst hd
      simp [encD, dsize]
    · have hu := unit_pos m
      have hp : 0 < data.length := List.length_pos_iff.2 h
      rw [encD_step m data h, List.length_append, length_lowBits]
      rcases Nat.lt_or_ge data.length (unitN m) with hl | hl
      · rw [Nat.min_eq_left (by omega), List.drop_of_length_le (by omega), hd]
        simp [encD]
      · rw [Nat.min_eq_right hl, ih (data.length - unitN m) (by omega) _ (by simp), ← dsize_add m hm, Nat.add_sub_cancel' hl, hd]

theorem index_none (c : UInt8) : ∀ (l : List UInt8), (∀ i (h : i < l.length), l[i] ≠ c) → Lib.indexByte l c = -1
  | [], _ => rfl
  | b :: l, h => by
    have h0 := h 0 (by simp)
    simp at h0
    have ih := index_none c l (fun i hi => by have := h (i + 1) (by simpa using hi); simpa using this)
    unfold Lib.indexByte
    rw [ih]
    simp [h0]
theorem index_some (c : UInt8) : ∀ (l : List UInt8) (k : Nat) (hk : k < l.length), l[k] = c → (∀ i (h : i < k), l[i]'(by omega) ≠ c) → Lib.indexByte l c = k
  | [], k, hk, _, _ => by simp at hk
  | b :: l, 0, _, h, _ => by simp at h; subst h; unfold Lib.indexByte; simp
  | b :: l, k + 1, hk, h, hn => by
    have h0 := hn 0 (by omega)
    simp at h0
    have ih := index_some c l k (by simpa using hk) (by simpa using h) (fun i hi => by have := hn (i + 1) (by omega); simpa using this)
    unfold Lib.indexByte
    rw [ih, if_neg (by simp [h0]), if_neg (by simp)]
    omega
theorem length_alnum : alnum.length = 45 := by decide
theorem placeI_bd (c : UInt8) : -1 ≤ placeI c ∧ placeI c ≤ 44 := by
  refine ⟨Lib.indexByte_ge _ _, ?_⟩
  by_cases h : ∃ i, ∃ h : i < alnum.length, alnum[i] = c
  · unfold placeI
    obtain ⟨i, hi, hc⟩ := h
    have hl := length_alnum
    induction i using Nat.strongRecOn with
    | ind i ih =>
      by_cases hx : ∃ j, ∃ h : j < i, alnum[j]'(by omega) = c
      · obtain ⟨j, hj, hjc⟩ := hx
        exact ih j hj (by omega) hjc
      · rw [index_some c alnum i hi hc (fun j hj e => hx ⟨j, hj, e⟩)]
        omega
  · unfold placeI
    rw [index_none c alnum (fun i hi e => h ⟨i, hi, e⟩)]
    omega

end Go.Mode
