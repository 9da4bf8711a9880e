/-
  Plain laws of BCH codes: polynomials over GF(2) as natural numbers; remainders; weights.
  No program; conditions stand in each lemma.
-/
import Derived.WalkKit
namespace Go.Bch
open Go

/-! ### weights -/

/-- The number of ones. -/
def wt : Nat → Nat
  | 0 => 0
  | n + 1 => (n + 1) % 2 + wt ((n + 1) / 2)
decreasing_by omega

theorem wt_zero : wt 0 = 0 := by unfold wt; rfl
theorem wt_step (n : Nat) : wt n = n % 2 + wt (n / 2) := by
  cases n with
  | zero => simp [wt_zero]
  | succ n => rw [wt]
theorem wt_double (n : Nat) : wt (2 * n) = wt n := by rw [wt_step]; simp
theorem wt_double1 (n : Nat) : wt (2 * n + 1) = wt n + 1 := by rw [wt_step, show (2 * n + 1) % 2 = 1 by omega, show (2 * n + 1) / 2 = n by omega]; omega

theorem wt_lt (b n : Nat) (h : n < 2 ^ b) : wt n ≤ b := by
  induction b generalizing n with
  | zero => have : n = 0 := by simpa using h
            subst this; rw [wt_zero]; exact Nat.le_refl _
  | succ b ih =>
    rw [wt_step]
    have := ih (n / 2) (by rw [Nat.pow_succ] at h; omega)
    omega

theorem wt_pos (n : Nat) (h : 0 < n) : 0 < wt n := by
  induction n using Nat.strongRecOn with
  | ind n ih =>
    rw [wt_step]
    by_cases h2 : n % 2 = 1
    · omega
    · have := ih (n / 2) (by omega) (by omega)
      omega

theorem xor_div2 (a b : Nat) : (a ^^^ b) / 2 = a / 2 ^^^ b / 2 := by
  apply Nat.eq_of_testBit_eq
  intro i
  rw [Nat.testBit_div_two, Nat.testBit_xor, Nat.testBit_xor, Nat.testBit_div_two, Nat.testBit_div_two]

theorem xor_mod2 (a b : Nat) : (a ^^^ b) % 2 = (a + b) % 2 := by
  have h := Nat.testBit_xor a b 0
  simp only [Nat.testBit_zero] at h
  have h1 : (a ^^^ b) % 2 = 0 ∨ (a ^^^ b) % 2 = 1 := by omega
  have h2 : a % 2 = 0 ∨ a % 2 = 1 := by omega
  have h3 : b % 2 = 0 ∨ b % 2 = 1 := by omega
  rcases h1 with h1 | h1 <;> rcases h2 with h2 | h2 <;> rcases h3 with h3 | h3 <;> simp [h1, h2, h3] at h <;> omega

/-- The triangle inequality. -/
theorem wt_xor (a : Nat) : ∀ b, wt (a ^^^ b) ≤ wt a + wt b := by
  induction a using Nat.strongRecOn with
  | ind a ih =>
    intro b
    by_cases ha : a = 0
    · subst ha; simp [wt_zero]
    · rw [wt_step (a ^^^ b), wt_step a, wt_step b, xor_div2, xor_mod2]
      have := ih (a / 2) (by omega) (b / 2)
      omega

/-- 'n & (n - 1)' has one 1 less. -/
theorem wt_clear (n : Nat) (h : 0 < n) : wt (n &&& (n - 1)) + 1 = wt n := by
  induction n using Nat.strongRecOn with
  | ind n ih =>
    by_cases h2 : n % 2 = 1
    · have e : n &&& (n - 1) = n - 1 := by
        apply Nat.eq_of_testBit_eq
        intro i
        rw [Nat.testBit_and]
        cases i with
        | zero => simp [Nat.testBit_zero]; omega
        | succ i =>
          rw [Nat.testBit_succ, Nat.testBit_succ, show n / 2 = (n - 1) / 2 by omega]; simp
      rw [e, wt_step n, h2, wt_step (n - 1), show (n - 1) % 2 = 0 by omega, show (n - 1) / 2 = n / 2 by omega]
      omega
    · have e : n &&& (n - 1) = 2 * (n / 2 &&& (n / 2 - 1)) := by
        apply Nat.eq_of_testBit_eq
        intro i
        rw [Nat.testBit_and]
        cases i with
        | zero => simp [Nat.testBit_zero]; omega
        | succ i =>
          rw [Nat.testBit_succ, Nat.testBit_succ, Nat.testBit_succ, show (n - 1) / 2 = n / 2 - 1 by omega, Nat.mul_div_cancel_left _ (by decide), Nat.testBit_and]
      rw [e, wt_double, wt_step n, show n % 2 = 0 by omega]
      have := ih (n / 2) (by omega) (by omega)
      omega

/-! ### remainders -/

/-- From bit d + j - 1 down to bit d: where the bit is set, the shifted generator is subtracted. -/
def red (g d : Nat) : Nat → Nat → Nat
  | 0, p => p
  | j + 1, p => red g d j (if p.testBit (d + j) then p ^^^ (g <<< j) else p)

theorem red_xor (g d : Nat) : ∀ (j p q : Nat), red g d j (p ^^^ q) = red g d j p ^^^ red g d j q
  | 0, _, _ => rfl
  | j + 1, p, q => by
    unfold red
    rw [← red_xor g d j]
    congr 1
    rw [Nat.testBit_xor]
    cases p.testBit (d + j) <;> cases q.testBit (d + j) <;> simp
    · rw [Nat.xor_assoc]
    · rw [Nat.xor_assoc, Nat.xor_comm q, Nat.xor_assoc]
    · rw [Nat.xor_assoc, ← Nat.xor_assoc (g <<< j), Nat.xor_comm (g <<< j) q, Nat.xor_assoc q, Nat.xor_self, Nat.xor_zero]

theorem lt_pow_of_top {n i : Nat} (h : n < 2 ^ (i + 1)) (hb : n.testBit i = false) : n < 2 ^ i := by
  apply Nat.lt_pow_two_of_testBit
  intro j hj
  by_cases hj' : j = i
  · subst hj'; exact hb
  · exact Nat.testBit_lt_two_pow (Nat.lt_of_lt_of_le h (Nat.pow_le_pow_right (by decide) (by omega)))

theorem shl_top {g d j : Nat} (h1 : 2 ^ d ≤ g) (h2 : g < 2 ^ (d + 1)) : (g <<< j).testBit (d + j) = true ∧ g <<< j < 2 ^ (d + j + 1) := by
  refine ⟨?_, ?_⟩
  · rw [Nat.testBit_shiftLeft]
    simp only [ge_iff_le, Nat.le_add_left, decide_true, Bool.true_and, Nat.add_sub_cancel]
    exact Nat.testBit_of_two_pow_le_and_two_pow_add_one_gt h1 h2
  · rw [Nat.shiftLeft_eq, show d + j + 1 = (d + 1) + j by omega, Nat.pow_add 2 (d + 1) j]
    exact Nat.mul_lt_mul_of_pos_right h2 (Nat.pow_pos (by decide))

theorem sub_top {g d j p : Nat} (h1 : 2 ^ d ≤ g) (h2 : g < 2 ^ (d + 1)) (hp : p < 2 ^ (d + j + 1)) (hb : p.testBit (d + j) = true) : p ^^^ (g <<< j) < 2 ^ (d + j) := by
  have h := shl_top (j := j) h1 h2
  exact lt_pow_of_top (Nat.xor_lt_two_pow hp h.2) (by rw [Nat.testBit_xor, hb, h.1]; rfl)

theorem red_lt {g d : Nat} (h1 : 2 ^ d ≤ g) (h2 : g < 2 ^ (d + 1)) : ∀ (j p : Nat), p < 2 ^ (d + j) → red g d j p < 2 ^ d
  | 0, p, h => h
  | j + 1, p, h => by
    unfold red
    apply red_lt h1 h2 j
    split
    · rename_i hb; exact sub_top h1 h2 h hb
    · rename_i hb; exact lt_pow_of_top h (by simpa using hb)

theorem red_skip (g d : Nat) : ∀ (j i p : Nat), p < 2 ^ (d + i) → i ≤ j → red g d j p = red g d i p
  | 0, i, p, _, hi => by obtain rfl : i = 0 := by omega
                         rfl
  | j + 1, i, p, h, hi => by
    by_cases e : i = j + 1
    · subst e; rfl
    · conv => lhs; unfold red
      rw [Nat.testBit_lt_two_pow (Nat.lt_of_lt_of_le h (Nat.pow_le_pow_right (by decide) (by omega)))]
      simp only [Bool.false_eq_true, if_false]
      exact red_skip g d j i p h (by omega)

theorem red_small (g d j p : Nat) (h : p < 2 ^ d) : red g d j p = p := by rw [red_skip g d j 0 p (by simpa using h) (Nat.zero_le _)]; rfl

/-- One step of the program: the top bit, at d + i, goes. -/
theorem red_top {g d : Nat} (h1 : 2 ^ d ≤ g) (h2 : g < 2 ^ (d + 1)) (j i p : Nat) (hp : p < 2 ^ (d + i + 1)) (hb : p.testBit (d + i) = true) (hi : i < j) : red g d j (p ^^^ (g <<< i)) = red g d j p := by
  have hlt := sub_top h1 h2 hp hb
  rw [red_skip g d j i _ hlt (by omega), red_skip g d j (i + 1) p (by rw [← Nat.add_assoc]; exact hp) (by omega)]
  conv => rhs; unfold red
  rw [hb, if_pos rfl]

/-! ### codewords -/

/-- The codeword of v. -/
def cw (v g : Nat) : Nat := v <<< g.log2 ^^^ red g g.log2 31 (v <<< g.log2)

theorem or_low (v d r : Nat) (h : r < 2 ^ d) : v <<< d ||| r = v <<< d ^^^ r := by
  apply Nat.eq_of_testBit_eq
  intro i
  rw [Nat.testBit_or, Nat.testBit_xor, Nat.testBit_shiftLeft]
  by_cases hi : d ≤ i
  · rw [Nat.testBit_lt_two_pow (Nat.lt_of_lt_of_le h (Nat.pow_le_pow_right (by decide) hi))]; simp
  · simp [hi]
theorem add_low (v d r : Nat) (h : r < 2 ^ d) : v <<< d + r = v <<< d ^^^ r := by
  rw [← or_low v d r h, Nat.shiftLeft_eq]
  have := Nat.two_pow_add_eq_or_of_lt h v
  rw [Nat.mul_comm v]
  exact this

theorem log2_bd (g : Nat) (h : 0 < g) : 2 ^ g.log2 ≤ g ∧ g < 2 ^ (g.log2 + 1) := ⟨Nat.log2_self_le (by omega), Nat.lt_log2_self⟩

/-- A code's parameters. -/
theorem deg_bd (g : Nat) (h1 : 3 ≤ g) (h2 : g < 524288) : 1 ≤ g.log2 ∧ g.log2 ≤ 18 := by
  have h3 : g.log2 < 19 := (Nat.log2_lt (by omega)).2 h2
  have h4 : 1 ≤ g.log2 := (Nat.le_log2 (by omega)).2 (by omega)
  omega

theorem pow2_le (a b : Nat) (h : a ≤ b) : 2 ^ a ≤ 2 ^ b := Nat.pow_le_pow_right (by decide) h

theorem shl_lt (v k d : Nat) (h : v < 2 ^ k) : v <<< d < 2 ^ (k + d) := by
  rw [Nat.shiftLeft_eq, Nat.pow_add]
  exact Nat.mul_lt_mul_of_pos_right h (Nat.pow_pos (by decide))

theorem rem_lt (g v k : Nat) (h1 : 3 ≤ g) (h : v < 2 ^ k) (hk : k ≤ 12) : red g g.log2 31 (v <<< g.log2) < 2 ^ g.log2 := by
  have := log2_bd g (by omega)
  refine red_lt this.1 this.2 31 _ (Nat.lt_of_lt_of_le (shl_lt v k g.log2 h) (pow2_le _ _ (by omega)))

theorem cw_lt (g v k : Nat) (h1 : 3 ≤ g) (h : v < 2 ^ k) (hk : k ≤ 12) : cw v g < 2 ^ (k + g.log2) := by
  unfold cw
  exact Nat.xor_lt_two_pow (shl_lt v k g.log2 h) (Nat.lt_of_lt_of_le (rem_lt g v k h1 h hk) (pow2_le _ _ (by omega)))

theorem shl_xor (a b d : Nat) : (a ^^^ b) <<< d = a <<< d ^^^ b <<< d := by
  apply Nat.eq_of_testBit_eq
  intro i
  simp only [Nat.testBit_xor, Nat.testBit_shiftLeft]
  cases decide (i ≥ d) <;> simp

theorem cw_xor (a b g : Nat) : cw (a ^^^ b) g = cw a g ^^^ cw b g := by
  unfold cw
  rw [shl_xor, red_xor]
  rw [Nat.xor_assoc, Nat.xor_assoc, ← Nat.xor_assoc (b <<< g.log2), Nat.xor_comm (b <<< g.log2) (red g g.log2 31 (a <<< g.log2)), Nat.xor_assoc]

theorem cw_upper (v g k : Nat) (h1 : 3 ≤ g) (h : v < 2 ^ k) (hk : k ≤ 12) : cw v g / 2 ^ g.log2 = v := by
  have hr := rem_lt g v k h1 h hk
  unfold cw
  rw [← add_low v g.log2 _ hr]
  generalize red g g.log2 31 (v <<< g.log2) = r at hr
  rw [Nat.shiftLeft_eq, Nat.mul_comm, Nat.mul_add_div (Nat.pow_pos (by decide)), Nat.div_eq_of_lt hr]
  rfl

theorem cw_pos (v g k : Nat) (h1 : 3 ≤ g) (h : v < 2 ^ k) (hk : k ≤ 12) (hv : 0 < v) : 0 < cw v g := by
  have := cw_upper v g k h1 h hk
  rcases Nat.eq_zero_or_pos (cw v g) with h0 | h0
  · rw [h0] at this; simp at this; omega
  · exact h0
end Go.Bch
