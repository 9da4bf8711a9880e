/-
  Plain: the number of ones of a number below 2^32 by shifts and masks.
  No program; conditions stand in each lemma.
-/
import Derived.Test.YtjkpdhcnklgfbaaBchPlain
namespace Go.Bch
open Go

theorem and_split (b c y z : Nat) (hb : b < 256) (hc : c < 256) : (b + 256 * y) &&& (c + 256 * z) = (b &&& c) + 256 * (y &&& z) := by
  have hbc : b &&& c < 2 ^ 8 := Nat.and_lt_two_pow _ hc
  apply Nat.eq_of_testBit_eq
  intro i
  rw [Nat.testBit_and, Nat.add_comm b, Nat.add_comm c, Nat.add_comm (b &&& c)]
  rw [show 256 = 2 ^ 8 from rfl, Nat.testBit_two_pow_mul_add y (by simpa using hb), Nat.testBit_two_pow_mul_add z (by simpa using hc), Nat.testBit_two_pow_mul_add (y &&& z) hbc]
  by_cases h : i < 8
  · simp only [h, if_true, Nat.testBit_and]
  · simp only [h, if_false, Nat.testBit_and]

def p8 : Nat → Nat → Nat
  | 0, _ => 0
  | f + 1, x => x % 2 + p8 f (x / 2)
def g1 (b : Nat) : Nat := (b / 2 &&& 85) + (b &&& 85)
def g2 (b : Nat) : Nat := (b / 4 &&& 51) + (b &&& 51)
def g3 (b : Nat) : Nat := (b / 16 + b) &&& 15

theorem wt8 (b y : Nat) (hb : b < 256) : wt (b + 256 * y) = p8 8 b + wt y := by
  rw [wt_step (b + 256 * y), wt_step ((b + 256 * y) / 2), wt_step ((b + 256 * y) / 2 / 2), wt_step ((b + 256 * y) / 2 / 2 / 2), wt_step ((b + 256 * y) / 2 / 2 / 2 / 2), wt_step ((b + 256 * y) / 2 / 2 / 2 / 2 / 2), wt_step ((b + 256 * y) / 2 / 2 / 2 / 2 / 2 / 2), wt_step ((b + 256 * y) / 2 / 2 / 2 / 2 / 2 / 2 / 2)]
  rw [show (b + 256 * y) / 2 / 2 / 2 / 2 / 2 / 2 / 2 / 2 = y by omega]
  simp only [p8]
  omega

theorem byte_fact : ∀ b : Fin 256, g3 (g2 (g1 b.val)) = p8 8 b.val ∧ g1 b.val ≤ 170 ∧ g2 (g1 b.val) ≤ 68 ∧ g2 (g1 b.val) % 16 ≤ 4 ∧ g3 (g2 (g1 b.val)) ≤ 8 := by decide +kernel

theorem half_fact : ∀ b : Fin 256, ∀ t : Fin 2, (b.val / 2 + 128 * t.val) &&& 85 = b.val / 2 &&& 85 := by decide +kernel
theorem quarter_fact : ∀ b : Fin 256, ∀ t : Fin 4, (b.val / 4 + 64 * t.val) &&& 51 = b.val / 4 &&& 51 := by decide +kernel

theorem step1 (b y z : Nat) (hb : b < 256) : ((b + 256 * y) / 2 &&& (85 + 256 * z)) + ((b + 256 * y) &&& (85 + 256 * z)) = g1 b + 256 * ((y / 2 &&& z) + (y &&& z)) := by
  have e : (b + 256 * y) / 2 = (b / 2 + 128 * (y % 2)) + 256 * (y / 2) := by omega
  rw [e, and_split _ _ _ _ (by omega) (by decide), and_split _ _ _ _ hb (by decide)]
  have := half_fact ⟨b, hb⟩ ⟨y % 2, by omega⟩
  simp only at this
  rw [this]
  unfold g1
  omega
theorem step2 (b y z : Nat) (hb : b < 256) : ((b + 256 * y) / 4 &&& (51 + 256 * z)) + ((b + 256 * y) &&& (51 + 256 * z)) = g2 b + 256 * ((y / 4 &&& z) + (y &&& z)) := by
  have e : (b + 256 * y) / 4 = (b / 4 + 64 * (y % 4)) + 256 * (y / 4) := by omega
  rw [e, and_split _ _ _ _ (by omega) (by decide), and_split _ _ _ _ hb (by decide)]
  have := quarter_fact ⟨b, hb⟩ ⟨y % 4, by omega⟩
  simp only at this
  rw [this]
  unfold g2
  omega
theorem step3 (b y z : Nat) (hb : b ≤ 68) (hy : y % 16 ≤ 4) : ((b + 256 * y) / 16 + (b + 256 * y)) &&& (15 + 256 * z) = g3 b + 256 * ((y / 16 + y) &&& z) := by
  have e : (b + 256 * y) / 16 + (b + 256 * y) = (b / 16 + b + 16 * (y % 16)) + 256 * (y / 16 + y) := by omega
  rw [e, and_split _ _ _ _ (by omega) (by decide)]
  have e2 : (b / 16 + b + 16 * (y % 16)) &&& 15 = g3 b := by
    unfold g3
    rw [show 15 = 2 ^ 4 - 1 from rfl, Nat.and_two_pow_sub_one_eq_mod, Nat.and_two_pow_sub_one_eq_mod]
    omega
  rw [e2]

/-- The whole reckoning. -/
def pop (x : Nat) : Nat :=
  let a := (x / 2 &&& 6148914691236517205) + (x &&& 6148914691236517205)
  let b := (a / 4 &&& 3689348814741910323) + (a &&& 3689348814741910323)
  let c := (b / 16 + b) &&& 1085102592571150095
  let d := c + c / 256
  let e := d + d / 65536
  (e + e / 4294967296) % 128

theorem pop_parts (b0 b1 b2 b3 : Nat) (h0 : b0 < 256) (h1 : b1 < 256) (h2 : b2 < 256) (h3 : b3 < 256) :
    let x := b0 + 256 * (b1 + 256 * (b2 + 256 * (b3 + 256 * 0)))
    let a := (x / 2 &&& 6148914691236517205) + (x &&& 6148914691236517205)
    let b := (a / 4 &&& 3689348814741910323) + (a &&& 3689348814741910323)
    let c := (b / 16 + b) &&& 1085102592571150095
    a ≤ 2863311530 ∧ b ≤ 1145324612 ∧ c = g3 (g2 (g1 b0)) + 256 * (g3 (g2 (g1 b1)) + 256 * (g3 (g2 (g1 b2)) + 256 * (g3 (g2 (g1 b3))))) := by
  intro x a b c
  have f0 := byte_fact ⟨b0, h0⟩
  have f1 := byte_fact ⟨b1, h1⟩
  have f2 := byte_fact ⟨b2, h2⟩
  have f3 := byte_fact ⟨b3, h3⟩
  simp only at f0 f1 f2 f3
  have ea : a = g1 b0 + 256 * (g1 b1 + 256 * (g1 b2 + 256 * (g1 b3 + 256 * 0))) := by
    show (x / 2 &&& (85 + 256 * (85 + 256 * (85 + 256 * (85 + 256 * 1431655765))))) + (x &&& (85 + 256 * (85 + 256 * (85 + 256 * (85 + 256 * 1431655765))))) = _
    rw [step1 _ _ _ h0, step1 _ _ _ h1, step1 _ _ _ h2, step1 _ _ _ h3]
    simp
  have eb : b = g2 (g1 b0) + 256 * (g2 (g1 b1) + 256 * (g2 (g1 b2) + 256 * (g2 (g1 b3) + 256 * 0))) := by
    show (a / 4 &&& (51 + 256 * (51 + 256 * (51 + 256 * (51 + 256 * 858993459))))) + (a &&& (51 + 256 * (51 + 256 * (51 + 256 * (51 + 256 * 858993459))))) = _
    rw [ea, step2 _ _ _ (by omega), step2 _ _ _ (by omega), step2 _ _ _ (by omega), step2 _ _ _ (by omega)]
    simp
  refine ⟨by omega, by omega, ?_⟩
  show (b / 16 + b) &&& (15 + 256 * (15 + 256 * (15 + 256 * (15 + 256 * 252645135)))) = _
  rw [eb, step3 _ _ _ (by omega) (by omega), step3 _ _ _ (by omega) (by omega), step3 _ _ _ (by omega) (by omega), step3 _ _ _ (by omega) (by omega)]
  simp

theorem bytes4 (x : Nat) (h : x < 4294967296) : ∃ b0 b1 b2 b3, b0 < 256 ∧ b1 < 256 ∧ b2 < 256 ∧ b3 < 256 ∧ x = b0 + 256 * (b1 + 256 * (b2 + 256 * (b3 + 256 * 0))) :=
  ⟨x % 256, x / 256 % 256, x / 65536 % 256, x / 16777216, by omega, by omega, by omega, by omega, by omega⟩

theorem pop_bd (x : Nat) (h : x < 4294967296) : (x / 2 &&& 6148914691236517205) + (x &&& 6148914691236517205) ≤ 2863311530 ∧
    (((x / 2 &&& 6148914691236517205) + (x &&& 6148914691236517205)) / 4 &&& 3689348814741910323) + (((x / 2 &&& 6148914691236517205) + (x &&& 6148914691236517205)) &&& 3689348814741910323) ≤ 1145324612 := by
  obtain ⟨b0, b1, b2, b3, h0, h1, h2, h3, rfl⟩ := bytes4 x h
  have := pop_parts b0 b1 b2 b3 h0 h1 h2 h3
  exact ⟨this.1, this.2.1⟩

theorem fold_sum (s0 s1 s2 s3 c : Nat) (h0 : s0 ≤ 8) (h1 : s1 ≤ 8) (h2 : s2 ≤ 8) (h3 : s3 ≤ 8) (hc : c = s0 + 256 * (s1 + 256 * (s2 + 256 * s3))) :
    (c + c / 256 + (c + c / 256) / 65536 + (c + c / 256 + (c + c / 256) / 65536) / 4294967296) % 128 = s0 + (s1 + (s2 + (s3 + 0))) := by
  have e1 : c / 256 = s1 + 256 * (s2 + 256 * s3) := by omega
  rw [e1]
  have e2 : (c + (s1 + 256 * (s2 + 256 * s3))) / 65536 = s2 + s3 + 256 * s3 := by omega
  rw [e2]
  have e3 : (c + (s1 + 256 * (s2 + 256 * s3)) + (s2 + s3 + 256 * s3)) / 4294967296 = 0 := by omega
  rw [e3]
  omega

theorem pop_eq (x : Nat) (h : x < 4294967296) : pop x = wt x := by
  obtain ⟨b0, b1, b2, b3, h0, h1, h2, h3, rfl⟩ := bytes4 x h
  have hp := (pop_parts b0 b1 b2 b3 h0 h1 h2 h3).2.2
  have f0 := byte_fact ⟨b0, h0⟩
  have f1 := byte_fact ⟨b1, h1⟩
  have f2 := byte_fact ⟨b2, h2⟩
  have f3 := byte_fact ⟨b3, h3⟩
  simp only at f0 f1 f2 f3
  rw [wt8 _ _ h0, wt8 _ _ h1, wt8 _ _ h2, wt8 _ _ h3, wt_zero, ← f0.1, ← f1.1, ← f2.1, ← f3.1]
  unfold pop
  simp only at hp ⊢
  exact fold_sum _ _ _ _ _ (by omega) (by omega) (by omega) (by omega) hp

end Go.Bch
