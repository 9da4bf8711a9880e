/-
  The contract of the laws' own bit; plain facts on the words that Pad returns.
  Conditions: the slice's cells are those of the list; the word is a byte.
-/
import Derived.Test.YtbfcgggcdmafoaaQrBase
namespace Go.Proofs.Ytbfcgggcdmafoaa
open Go.RowKit Go.Bs Go.Mode Go.Qr

theorem lowBits_at (v : Int) (n r : Nat) (h : r < n) : (lowBits v n)[r]'(by rw [length_lowBits]; exact h) = bitOf v (n - 1 - r) := by simp [lowBits, lowFrom]

theorem padW_at (xs : List Bool) (K j : Nat) (h : xs.length ≤ 8 * K) (hj : j < K) : (padW xs K)[j]'(by rw [length_padW xs K h]; exact hj) = num (((full xs K).drop (j * 8)).take 8) := by
  have e := words_full xs K h
  have : (wordsTo (full xs K) 8 false K)[j]'(by simp [wordsTo]; exact hj) = num (((full xs K).drop (j * 8)).take 8) := by
    simp only [wordsTo, List.getElem_map, List.getElem_range]
    rw [pad_long (full xs K) (j * 8) 8 0 false (by rw [length_full xs K h]; omega)]
    simp
  rw [← this]
  simp only [e]

theorem padW_bd (xs : List Bool) (K j : Nat) (h : xs.length ≤ 8 * K) (hj : j < K) : 0 ≤ (padW xs K)[j]'(by rw [length_padW xs K h]; exact hj) ∧ (padW xs K)[j]'(by rw [length_padW xs K h]; exact hj) ≤ 255 := by
  rw [padW_at xs K j h hj]
  have h1 := num_bd (((full xs K).drop (j * 8)).take 8)
  rw [show (((full xs K).drop (j * 8)).take 8).length = 8 by simp [length_full xs K h]; omega] at h1
  omega

theorem padW_bit (xs : List Bool) (K i : Nat) (h : xs.length ≤ 8 * K) (hi : i < 8 * K) :
    bitOf ((padW xs K)[i / 8]'(by rw [length_padW xs K h]; omega)) (7 - i % 8) = (full xs K)[i]'(by rw [length_full xs K h]; exact hi) := by
  rw [padW_at xs K (i / 8) h (by omega)]
  have hl : (((full xs K).drop (i / 8 * 8)).take 8).length = 8 := by simp [length_full xs K h]; omega
  have e := lowBits_num (((full xs K).drop (i / 8 * 8)).take 8)
  rw [hl] at e
  have h2 := lowBits_at (num (((full xs K).drop (i / 8 * 8)).take 8)) 8 (i % 8) (by omega)
  simp only [e] at h2
  rw [show 8 - 1 - i % 8 = 7 - i % 8 by omega] at h2
  rw [← h2, List.getElem_take, List.getElem_drop]
  congr 1
  omega

theorem full_in (xs : List Bool) (K i : Nat) (h : xs.length ≤ 8 * K) (hi : i < xs.length) : (full xs K)[i]'(by rw [length_full xs K h]; omega) = xs[i] := by
  simp only [full, body]
  rw [List.getElem_append_left (by simp; omega), List.getElem_append_left (by simp; omega), List.getElem_append_left hi]
theorem full_mid (xs : List Bool) (K i : Nat) (h : xs.length ≤ 8 * K) (hi : xs.length ≤ i) (hi2 : i < 8 * nb xs.length K) : (full xs K)[i]'(by rw [length_full xs K h]; have := (body8 xs.length K h).2; omega) = false := by
  have h8 := body8 xs.length K h
  simp only [full]
  rw [List.getElem_append_left (by rw [length_body]; omega)]
  simp only [body]
  by_cases hs : i < xs.length + t1 xs.length K
  · rw [List.getElem_append_left (by simp; omega), List.getElem_append_right hi]
    simp
  · rw [List.getElem_append_right (by simp; omega)]
    simp
theorem padW_pad (xs : List Bool) (K j : Nat) (h : xs.length ≤ 8 * K) (hj : j < K) (h2 : nb xs.length K ≤ j) : (padW xs K)[j]'(by rw [length_padW xs K h]; exact hj) = padNum (j - nb xs.length K) := by
  simp only [padW]
  rw [List.getElem_append_right (by simpa using h2)]
  simp

set_option maxRecDepth 20000 in
set_option maxHeartbeats 800000 in
theorem bit_any (ao : Option Addr) (len cap : Nat) (l : List Int) (i q r : Nat) (w : World) (hl : l.length = len) (hcap : len ≤ cap) (hm : cap ≤ 9223372036854775807) (hq : i / 8 = q) (hr7 : i % 8 = r) (hi : q < l.length) (hi63 : i ≤ 9223372036854775807) (_ : 0 ≤ l[q] ∧ l[q] ≤ 255) (hr : Row w ao (ints l)) :
    Calls Try.prog 18 #[.slice ao len cap, .int .i64 i] w fun e w' => e = .returned (.bool (bitOf l[q] (7 - r))) ∧ w = w' := by
  obtain ⟨a, rfl, hc⟩ := hr.at (Go.Bs.ints_at l q hi)
  obtain ⟨X, hX⟩ : ∃ X, X = l[q] := ⟨_, rfl⟩
  rw [← hX] at hc ⊢
  have hql : q < len := by omega
  have hi8 : ((i : Int) / 8) = (q : Int) := by omega
  have hr8 : ((i : Int) % 8) = (r : Int) := by omega
  have hr9 : r < 8 := by omega
  clear hX hl hq hr7
  go_enter Try.func18, Try.ntmps18
  go_wp2_with fail
  go_ret
  rw [← bit_eq]
  exact ⟨rfl, rfl⟩

end Go.Proofs.Ytbfcgggcdmafoaa
