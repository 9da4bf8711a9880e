/-
  Plain lemmas on numbers: bits of int (i64) values, the number that a list of bits forms, the low bits of a number.
  No program; conditions stand in each lemma.
-/
import Derived.WalkKit
namespace Go.Bs
open Go Go.RowKit

theorem wrap_i64_nat (n : Nat) (h : n < 9223372036854775808) : IntKind.i64.wrap (n : Int) = n := by rw [IntKind.wrap_i64]; omega

theorem i64_and_nat (a b : Nat) (ha : a < 9223372036854775808) (hb : b < 9223372036854775808) : bits .and .i64 (a : Int) (b : Int) = ((a &&& b : Nat) : Int) := by
  have hx : a &&& b < 2 ^ 63 := Nat.and_lt_two_pow _ (by omega)
  show IntKind.i64.wrap ((BitVec.ofInt 64 (a : Int) &&& BitVec.ofInt 64 (b : Int)).toNat : Int) = _
  rw [BitVec.toNat_and, ofInt_u64 a (by omega), ofInt_u64 b (by omega)]
  exact wrap_i64_nat _ (by omega)

theorem i64_or_nat (a b : Nat) (ha : a < 9223372036854775808) (hb : b < 9223372036854775808) : bits .or .i64 (a : Int) (b : Int) = ((a ||| b : Nat) : Int) := by
  have hx : a ||| b < 2 ^ 63 := Nat.or_lt_two_pow (by omega) (by omega)
  show IntKind.i64.wrap ((BitVec.ofInt 64 (a : Int) ||| BitVec.ofInt 64 (b : Int)).toNat : Int) = _
  rw [BitVec.toNat_or, ofInt_u64 a (by omega), ofInt_u64 b (by omega)]
  exact wrap_i64_nat _ (by omega)

theorem i64_xor_nat (a b : Nat) (ha : a < 9223372036854775808) (hb : b < 9223372036854775808) : bits .xor .i64 (a : Int) (b : Int) = ((a ^^^ b : Nat) : Int) := by
  have hx : a ^^^ b < 2 ^ 63 := Nat.xor_lt_two_pow (by omega) (by omega)
  show IntKind.i64.wrap ((BitVec.ofInt 64 (a : Int) ^^^ BitVec.ofInt 64 (b : Int)).toNat : Int) = _
  rw [BitVec.toNat_xor, ofInt_u64 a (by omega), ofInt_u64 b (by omega)]
  exact wrap_i64_nat _ (by omega)

/-- 'x & 1' is the remainder by two, of a negative number too. -/
theorem i64_and_one (x : Int) : bits .and .i64 x 1 = x % 2 := by
  show IntKind.i64.wrap ((BitVec.ofInt 64 x &&& BitVec.ofInt 64 1).toNat : Int) = _
  have h1 : (BitVec.ofInt 64 1).toNat = 1 := by decide
  rw [BitVec.toNat_and, h1, nat_mask1, BitVec.toNat_ofInt]
  have h2 : ((2 : Nat) ^ 64 : Int) = 18446744073709551616 := by decide
  rw [wrap_i64_nat _ (by omega)]
  omega

/-- 'x | 1' at an even number. -/
theorem i64_or_one (x : Int) (h0 : 0 ≤ x) (h1 : x < 4611686018427387904) : bits .or .i64 (x * 2) 1 = x * 2 + 1 := by
  obtain ⟨n, rfl⟩ := Int.eq_ofNat_of_zero_le h0
  have e : ((n : Int) * 2) = ((n * 2 : Nat) : Int) := by omega
  rw [e, show (1 : Int) = ((1 : Nat) : Int) from rfl, i64_or_nat _ _ (by omega) (by omega), nat_join 1 (n * 2) 1 (by omega) (by omega)]
  omega

/-- The bit of a number at a place. -/
def bitOf (v : Int) (i : Nat) : Bool := (v / 2 ^ i) % 2 == 1

theorem bit_eq (v : Int) (i : Nat) : (bits .and .i64 (v / 2 ^ i) 1 == 1) = bitOf v i := by rw [i64_and_one]; rfl

/-- The first k of the n low bits, the most significant first. -/
def lowFrom (v : Int) (n k : Nat) : List Bool := (List.range k).map fun j => bitOf v (n - 1 - j)
def lowBits (v : Int) (n : Nat) : List Bool := lowFrom v n n
theorem lowFrom_zero (v : Int) (n : Nat) : lowFrom v n 0 = [] := rfl
theorem lowFrom_succ (v : Int) (n k : Nat) : lowFrom v n (k + 1) = lowFrom v n k ++ [bitOf v (n - 1 - k)] := by simp [lowFrom, List.range_succ]
theorem length_lowFrom (v : Int) (n k : Nat) : (lowFrom v n k).length = k := by simp [lowFrom]
theorem length_lowBits (v : Int) (n : Nat) : (lowBits v n).length = n := by simp [lowBits, lowFrom]

/-- The number that bits form. -/
def num (l : List Bool) : Int := l.foldl (fun v b => 2 * v + if b then 1 else 0) 0
theorem num_nil : num [] = 0 := rfl
theorem num_snoc (l : List Bool) (b : Bool) : num (l ++ [b]) = 2 * num l + if b then 1 else 0 := by simp [num]
theorem num_take (l : List Bool) (k : Nat) (h : k < l.length) : num (l.take (k + 1)) = 2 * num (l.take k) + if l[k] then 1 else 0 := by
  rw [List.take_succ_eq_append_getElem h, num_snoc]

theorem num_take_drop (l : List Bool) (p k : Nat) (h : p + k < l.length) : num ((l.drop p).take (k + 1)) = 2 * num ((l.drop p).take k) + if l[p + k] then 1 else 0 := by
  rw [num_take _ _ (by simp; omega)]; simp

theorem snoc_ind {α : Type} {p : List α → Prop} (h0 : p []) (h1 : ∀ l a, p l → p (l ++ [a])) (l : List α) : p l := by
  rw [← List.reverse_reverse l]
  induction l.reverse with
  | nil => exact h0
  | cons a m ih => rw [List.reverse_cons]; exact h1 _ _ ih

theorem num_bd (l : List Bool) : 0 ≤ num l ∧ num l < 2 ^ l.length := by
  induction l using snoc_ind with
  | h0 => simp [num]
  | h1 l b ih =>
    rw [num_snoc, List.length_append, List.length_singleton, Int.pow_succ]
    split <;> omega

theorem pow_le62 (n : Nat) (h : n ≤ 62) : (2 : Int) ^ n ≤ 4611686018427387904 := by
  have h1 : (2 : Nat) ^ n ≤ 2 ^ 62 := Nat.pow_le_pow_right (by decide) h
  have h2 : ((2 ^ n : Nat) : Int) = (2 : Int) ^ n := by rw [Int.natCast_pow]; rfl
  omega

theorem num_le62 (l : List Bool) (h : l.length ≤ 62) : 0 ≤ num l ∧ num l < 4611686018427387904 := by
  have := num_bd l
  have := pow_le62 l.length h
  omega

theorem pow_le61 (n : Nat) (h : n ≤ 61) : (2 : Int) ^ n ≤ 2305843009213693952 := by
  have h1 : (2 : Nat) ^ n ≤ 2 ^ 61 := Nat.pow_le_pow_right (by decide) h
  have h2 : ((2 ^ n : Nat) : Int) = (2 : Int) ^ n := by rw [Int.natCast_pow]; rfl
  omega

theorem num_take_bd (l : List Bool) (k : Nat) (h : k ≤ 61) : 0 ≤ num (l.take k) ∧ num (l.take k) < 2305843009213693952 := by
  have h1 := num_bd (l.take k)
  have h2 := pow_le61 (l.take k).length (by have := List.length_take_le k l; omega)
  omega
end Go.Bs
