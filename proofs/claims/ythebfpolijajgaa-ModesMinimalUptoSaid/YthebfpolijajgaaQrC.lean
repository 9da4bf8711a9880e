/-
  Contracts of qrdata.Header, and of the reference's number, value and Header.
  Conditions: lengths fit.
-/
import Derived.Test.YthebfpolijajgaaQrA
import Derived.Deep.LoopGhost
namespace Go.Proofs.Ythebfpolijajgaa
open Go.RowKit Go.Bs Go.Mode

/-- A header: index, total, parity. -/
def hdBits (i t p : Int) : List Bool := lowBits 3 4 ++ lowBits i 4 ++ lowBits (t - 1) 4 ++ lowBits p 8
def hdRes (i t p : Int) : List Bool × Int :=
  if i = 0 ∧ t = 0 ∧ p = 0 then ([], 0) else if t < 2 ∨ 16 < t ∨ i < 0 ∨ t ≤ i ∨ p < 0 ∨ 255 < p then ([], 3) else (hdBits i t p, 0)
theorem length_hdBits (i t p : Int) : (hdBits i t p).length = 20 := by simp [hdBits, length_lowBits]

/-- A slice of the call's own and an error code. -/
def OwnSl (t : TypeId) (w : World) (p : List Value × Int) (e : Ending) (w' : World) : Prop :=
  ∃ s, e = .returned (.tuple #[s, .int .i64 p.2]) ∧ w'.ownsRow w.heap.size t 1 s p.1.length p.1 ∧ Ext w w'

theorem hd_cases (i t p : Int) : (i = 0 ∧ t = 0 ∧ p = 0) ∨ (¬ (i = 0 ∧ t = 0 ∧ p = 0) ∧ (t < 2 ∨ (2 ≤ t ∧ 16 < t) ∨ (2 ≤ t ∧ t ≤ 16 ∧ i < 0) ∨ (2 ≤ t ∧ t ≤ 16 ∧ 0 ≤ i ∧ t ≤ i) ∨ (2 ≤ t ∧ t ≤ 16 ∧ 0 ≤ i ∧ i < t ∧ p < 0) ∨ (2 ≤ t ∧ t ≤ 16 ∧ 0 ≤ i ∧ i < t ∧ 0 ≤ p ∧ 255 < p))) ∨ (2 ≤ t ∧ t ≤ 16 ∧ 0 ≤ i ∧ i < t ∧ 0 ≤ p ∧ p ≤ 255) := by omega

/-- A row of the call's own is returned. -/
def OwnRow (t : TypeId) (w : World) (cs : List Value) (e : Ending) (w' : World) : Prop :=
  ∃ s, e = .returned s ∧ w'.ownsRow w.heap.size t 1 s cs.length cs ∧ Ext w w'

theorem fill_back (L : List Value) (z v : Value) (k : Nat) (h : L[k]? = some v) : (List.replicate (k + 1) z ++ L.drop (k + 1)).set k v = List.replicate k z ++ L.drop k := by
  obtain ⟨hk, hv⟩ := List.getElem?_eq_some_iff.1 h
  rw [List.replicate_succ', List.append_assoc, List.set_append, if_neg (by simp), List.length_replicate, Nat.sub_self]
  simp only [List.cons_append, List.nil_append, List.set_cons_zero]
  rw [List.drop_eq_getElem_cons hk, hv]

end Go.Proofs.Ythebfpolijajgaa
