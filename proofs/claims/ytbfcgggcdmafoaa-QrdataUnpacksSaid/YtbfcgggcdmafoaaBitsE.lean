/-
  Contracts of bits.Parse, barscanref01.Parse, bits.Format, barscanref01.Format.
  Conditions: the slices' cells are those of the lists; lengths are bounded.
-/
import Derived.Test.YtbfcgggcdmafoaaBitsD
namespace Go.Proofs.Ytbfcgggcdmafoaa
open Go.RowKit Go.Bs


def pbits (s : List UInt8) : List Bool := s.map (· == 49)
theorem length_pbits (s : List UInt8) : (pbits s).length = s.length := by simp [pbits]
def okc (c : UInt8) : Bool := c == 48 || c == 49
def parseRes (s : List UInt8) : List Bool × Int := if 1048576 < s.length then ([], 4) else if s.all okc then (pbits s, 0) else ([], 6)
theorem parseRes_1 {s : List UInt8} (h : 1048576 < s.length) : parseRes s = ([], 4) := by unfold parseRes; rw [if_pos h]
theorem parseRes_2 {s : List UInt8} (h : ¬ 1048576 < s.length) (h2 : s.all okc = true) : parseRes s = (pbits s, 0) := by unfold parseRes; rw [if_neg h, if_pos h2]
theorem parseRes_3 {s : List UInt8} (h : ¬ 1048576 < s.length) (k : Nat) (hk : k < s.length) (h2 : okc s[k] = false) : parseRes s = ([], 6) := by
  unfold parseRes; rw [if_neg h, if_neg]
  intro h4
  rw [List.all_eq_true] at h4
  rw [h4 _ (List.getElem_mem hk)] at h2
  cases h2

theorem u8_eq_iff (c : UInt8) (n : Nat) (hn : n < 256) : c = UInt8.ofNat n ↔ (c.toNat : Int) = n := by
  constructor
  · rintro rfl; simp; omega
  · intro h
    apply UInt8.toNat_inj.1
    simp; omega
theorem okc_cases (c : UInt8) : (okc c = true ∧ (c == 49) = false ∧ (c.toNat : Int) = 48) ∨ (okc c = true ∧ (c == 49) = true ∧ (c.toNat : Int) = 49) ∨ (okc c = false ∧ (c.toNat : Int) ≠ 48 ∧ (c.toNat : Int) ≠ 49) := by
  have h8 := u8_eq_iff c 48 (by decide)
  have h9 := u8_eq_iff c 49 (by decide)
  by_cases a : c = 48
  · left; subst a; decide
  · by_cases b : c = 49
    · right; left; subst b; decide
    · right; right
      refine ⟨by simp [okc, a, b], fun h => a (h8.2 h), fun h => b (h9.2 h)⟩
theorem data_at (s : ByteArray) (k : Nat) (h : k < s.size) : s.data.toList[k]'(by simpa using h) = s[k] := rfl

def fmtBits (xs : List Bool) : List UInt8 := xs.map fun b => if b then 49 else 48
theorem length_fmtBits (xs : List Bool) : (fmtBits xs).length = xs.length := by simp [fmtBits]
theorem fmtBits_at (xs : List Bool) (k : Nat) (h : k < xs.length) : (byts (fmtBits xs))[k]? = some (.int .u8 (if xs[k] then 49 else 48)) := by
  rw [byts_at _ _ (by rw [length_fmtBits]; exact h)]; simp only [fmtBits, List.getElem_map]
  cases xs[k] <;> rfl

end Go.Proofs.Ytbfcgggcdmafoaa
