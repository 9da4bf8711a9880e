/-
  Contracts of qrversion.Aligns and its reference; of the reference's tables and Codewords.
  Conditions: none for the last of each.
-/
import Derived.Test.YtbfcgggcdmafoaaVerB
import Derived.Test.YtbfcgggcdmafoaaInfo
namespace Go.Proofs.Ytbfcgggcdmafoaa
open Go.RowKit Go.Bs Go.Qrv


def alRes (v : Int) : List Int × Int := if inV v then (al v.toNat, 0) else ([], 14)
theorem alRes_1 {v : Nat} (h : inV v) : alRes v = (al v, 0) := by unfold alRes; rw [if_pos h]; rfl
theorem alRes_2 {v : Int} (h : ¬ inV v) : alRes v = ([], 14) := by unfold alRes; rw [if_neg h]

def nz (l : List Int) : List Int := l.filter fun c => c != 0
theorem nz_take_yes (l : List Int) (k : Nat) (h : k < l.length) (hz : (l[k] != 0) = true) : ints (nz (l.take (k + 1))) = ints (nz (l.take k)) ++ [.int .i64 l[k]] := by
  unfold nz
  rw [List.take_succ_eq_append_getElem h, List.filter_append, ints_append]
  simp [hz, ints]
theorem nz_take_no (l : List Int) (k : Nat) (h : k < l.length) (hz : (l[k] != 0) = false) : nz (l.take (k + 1)) = nz (l.take k) := by
  unfold nz
  rw [List.take_succ_eq_append_getElem h, List.filter_append]
  simp [hz]
theorem nz_all : ∀ i : Fin 40, nz (cenRow (i.val + 1)) = al (i.val + 1) := by decide +kernel
theorem nz_cen (n : Nat) (h1 : 1 ≤ n) (h2 : n ≤ 40) : nz (cenRow n) = al n := by
  have := nz_all ⟨n - 1, by omega⟩
  simp only [show n - 1 + 1 = n by omega] at this
  exact this

end Go.Proofs.Ytbfcgggcdmafoaa
