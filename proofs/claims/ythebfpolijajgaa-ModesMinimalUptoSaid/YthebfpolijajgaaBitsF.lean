/-
  Contracts of bits.FromBytes, barscanref01.FromBytes, bits.Bytes, barscanref01.Bytes.
  Conditions: the slices' cells are those of the lists; lengths are bounded.
-/
import Derived.Test.YthebfpolijajgaaBytesPlain
namespace Go.Proofs.Ythebfpolijajgaa
open Go.RowKit Go.Bs

theorem u8_and_one (x : Int) (h0 : 0 ≤ x) (h1 : x < 256) : bits .and .u8 x 1 = x % 2 := by
  rw [u8_and x 1 h0 h1 (by decide) (by decide), show (1 : Int).toNat = 1 from rfl, nat_mask1]; omega
theorem u8_shr_bd (c : UInt8) (i : Nat) : 0 ≤ (c.toNat : Int) / 2 ^ i ∧ (c.toNat : Int) / 2 ^ i < 256 := by
  have h := c.toNat_lt
  have hp : (0 : Int) < 2 ^ i := Int.pow_pos (by decide)
  have h1 := Int.ediv_nonneg (show 0 ≤ (c.toNat : Int) by omega) (show 0 ≤ (2 : Int) ^ i by omega)
  have h2 := Int.ediv_le_self (2 ^ i) (show 0 ≤ (c.toNat : Int) by omega)
  omega

def pbit (p : List UInt8) (i : Nat) : Bool := (((p.getD (i / 8) 0).toNat : Int) / 2 ^ (7 - i % 8)) % 2 == 1
theorem pbit_eq (p : List UInt8) (i : Nat) (h : i / 8 < p.length) : (bits .and .u8 ((p[i / 8].toNat : Int) / 2 ^ (7 - i % 8)) 1 == 1) = pbit p i := by
  have := u8_shr_bd p[i / 8] (7 - i % 8)
  rw [u8_and_one _ this.1 this.2]; unfold pbit; rw [List.getD, List.getElem?_eq_getElem h]; rfl
def fbits (p : List UInt8) (n : Nat) : List Bool := (List.range n).map (pbit p)
theorem length_fbits (p : List UInt8) (n : Nat) : (fbits p n).length = n := by simp [fbits]
theorem fbits_at (p : List UInt8) (n k : Nat) (h : k < n) : (bools (fbits p n))[k]? = some (.bool (pbit p k)) := by
  rw [bools_at _ _ (by rw [length_fbits]; exact h)]; simp [fbits]
theorem fbits_succ (p : List UInt8) (k : Nat) : bools (fbits p (k + 1)) = bools (fbits p k) ++ [.bool (pbit p k)] := by
  unfold fbits; rw [List.range_succ, List.map_append, bools_append]; rfl
def fbRes (p : List UInt8) (n : Int) : List Bool × Int :=
  if n < 0 then ([], 3) else if 1048576 < n then ([], 4) else if (p.length : Int) < (n + 7) / 8 then ([], 10) else (fbits p n.toNat, 0)
theorem fbRes_1 {p : List UInt8} {n : Int} (h : n < 0) : fbRes p n = ([], 3) := by unfold fbRes; rw [if_pos h]
theorem fbRes_2 {p : List UInt8} {n : Int} (h : ¬ n < 0) (h2 : 1048576 < n) : fbRes p n = ([], 4) := by unfold fbRes; rw [if_neg h, if_pos h2]
theorem fbRes_3 {p : List UInt8} {n : Int} (h : ¬ n < 0) (h2 : ¬ 1048576 < n) (h3 : (p.length : Int) < (n + 7) / 8) : fbRes p n = ([], 10) := by unfold fbRes; rw [if_neg h, if_neg h2, if_pos h3]
theorem fbRes_4 {p : List UInt8} {n : Int} (h : ¬ n < 0) (h2 : ¬ 1048576 < n) (h3 : ¬ (p.length : Int) < (n + 7) / 8) : fbRes p n = (fbits p n.toNat, 0) := by unfold fbRes; rw [if_neg h, if_neg h2, if_neg h3]

/-- The bytes that bits form. -/
def bytesOf (xs : List Bool) (k : Nat) : List UInt8 := (List.range k).map fun j => UInt8.ofNat (num (pad xs (j * 8) 8 false)).toNat
theorem length_bytesOf (xs : List Bool) (k : Nat) : (bytesOf xs k).length = k := by simp [bytesOf]
theorem num8_bd (l : List Bool) (h : l.length = 8) : 0 ≤ num l ∧ num l < 256 := by
  have := num_bd l
  rw [h] at this
  exact this
theorem bytesOf_succ (xs : List Bool) (k : Nat) : byts (bytesOf xs (k + 1)) = byts (bytesOf xs k) ++ [.int .u8 (num (pad xs (k * 8) 8 false))] := by
  unfold bytesOf; rw [List.range_succ, List.map_append, byts_append]
  have := num8_bd (pad xs (k * 8) 8 false) (length_pad _ _ _ _)
  simp [byts]; omega

theorem bytesOf_at (xs : List Bool) (nb j : Nat) (h : j < nb) : (bytesOf xs nb)[j]'(by rw [length_bytesOf]; exact h) = UInt8.ofNat (num (pad xs (j * 8) 8 false)).toNat := by simp [bytesOf]
theorem toNat_byte (n : Int) (h0 : 0 ≤ n) (h1 : n < 256) : ((UInt8.ofNat n.toNat).toNat : Int) = n := by simp; omega
theorem bytesOf_nil (nb : Nat) : byts (bytesOf [] nb) = List.replicate nb (.int .u8 0) := by
  have e : ∀ j : Nat, num (pad [] (j * 8) 8 false) = 0 := by intro j; rw [num_pad8]; simp [b2]
  apply List.ext_getElem?
  intro j
  by_cases hj : j < nb
  · rw [byts_at _ _ (by rw [length_bytesOf]; exact hj), bytesOf_at _ _ _ hj, e, List.getElem?_replicate, if_pos hj]; rfl
  · rw [List.getElem?_eq_none (by rw [length_byts, length_bytesOf]; omega), List.getElem?_eq_none (by simp; omega)]
theorem bytes_keep (xs : List Bool) (nb k : Nat) (h : k < xs.length) (hv : xs[k] = false) : bytesOf (xs.take (k + 1)) nb = bytesOf (xs.take k) nb := by
  unfold bytesOf
  apply List.map_congr_left
  intro j _
  by_cases hj : j = k / 8
  · subst hj; rw [(pad_same xs k h).1, hv]; simp [b2]
  · rw [pad_other xs k j h hj]
theorem u8_or_step (c : Int) (r : Nat) (hr : r < 8) (h0 : 0 ≤ c) (h1 : c + 2 ^ (7 - r) < 256) (hm : c % 2 ^ (8 - r) = 0) : bits .or .u8 c (2 ^ (7 - r) % 256) = c + 2 ^ (7 - r) := by
  obtain ⟨n, rfl⟩ := Int.eq_ofNat_of_zero_le h0
  rcases (show r = 0 ∨ r = 1 ∨ r = 2 ∨ r = 3 ∨ r = 4 ∨ r = 5 ∨ r = 6 ∨ r = 7 by omega) with rfl | rfl | rfl | rfl | rfl | rfl | rfl | rfl
  all_goals
    simp only [Nat.sub_zero, Nat.reduceSub, Int.reducePow, Int.reduceMod] at *
    rw [u8_or _ _ (by omega) (by omega) (by omega) (by omega)]
  · rw [nat_join 8 _ _ (by omega) (by decide)]; omega
  · rw [nat_join 7 _ _ (by omega) (by decide)]; omega
  · rw [nat_join 6 _ _ (by omega) (by decide)]; omega
  · rw [nat_join 5 _ _ (by omega) (by decide)]; omega
  · rw [nat_join 4 _ _ (by omega) (by decide)]; omega
  · rw [nat_join 3 _ _ (by omega) (by decide)]; omega
  · rw [nat_join 2 _ _ (by omega) (by decide)]; omega
  · rw [nat_join 1 _ _ (by omega) (by decide)]; omega
theorem bytes_put (xs : List Bool) (nb k : Nat) (h : k < xs.length) (hv : xs[k] = true) (hn : k / 8 < nb) :
    byts (bytesOf (xs.take (k + 1)) nb) = (byts (bytesOf (xs.take k) nb)).set (k / 8) (.int .u8 (bits .or .u8 (((bytesOf (xs.take k) nb)[k / 8]'(by rw [length_bytesOf]; exact hn)).toNat : Int) (2 ^ (7 - k % 8) % 256))) := by
  obtain ⟨hs, hm⟩ := pad_same xs k h
  rw [hv, show b2 true = 1 from rfl, Int.one_mul] at hs
  have hb1 := num8_bd (pad (xs.take k) (k / 8 * 8) 8 false) (length_pad _ _ _ _)
  have hb2 := num8_bd (pad (xs.take (k + 1)) (k / 8 * 8) 8 false) (length_pad _ _ _ _)
  rw [bytesOf_at _ _ _ hn, toNat_byte _ hb1.1 hb1.2, u8_or_step _ (k % 8) (by omega) hb1.1 (by omega) hm, ← hs]
  apply List.ext_getElem?
  intro j
  by_cases hj : j = k / 8
  · subst hj
    rw [byts_at _ _ (by rw [length_bytesOf]; exact hn), bytesOf_at _ _ _ hn, toNat_byte _ hb2.1 hb2.2, List.getElem?_set_self (by rw [length_byts, length_bytesOf]; exact hn)]
  · rw [List.getElem?_set_ne (by omega)]
    by_cases hjn : j < nb
    · rw [byts_at _ _ (by rw [length_bytesOf]; exact hjn), byts_at _ _ (by rw [length_bytesOf]; exact hjn), bytesOf_at _ _ _ hjn, bytesOf_at _ _ _ hjn, pad_other xs k j h hj]
    · rw [List.getElem?_eq_none (by rw [length_byts, length_bytesOf]; omega), List.getElem?_eq_none (by rw [length_byts, length_bytesOf]; omega)]

end Go.Proofs.Ythebfpolijajgaa
