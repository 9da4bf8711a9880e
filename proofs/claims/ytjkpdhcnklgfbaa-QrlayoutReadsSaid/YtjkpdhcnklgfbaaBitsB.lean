/-
  Contracts of bits.appendLow, bits.Append, barscanref01.Append.
  Conditions: the slices' cells are those of the lists; lengths are bounded.
-/
import Derived.Test.YtjkpdhcnklgfbaaBitsA
import Derived.Test.YtjkpdhcnklgfbaaRet
namespace Go.Proofs.Ytjkpdhcnklgfbaa
open Go.RowKit Go.Bs


set_option maxHeartbeats 400000 in
theorem appendLow_any (B : Nat) (s : Value) (m : Nat) (xs : List Bool) (v : Int) (n : Nat) (w : World) (hn : n ≤ 62) (hm : m ≤ 4194304)
    (ho : w.ownsRow B 4 1 s m (bools xs)) (hB : B ≤ w.heap.size) :
    Calls Try.prog 84 #[s, .int .i64 v, .int .i64 n] w fun e w' => ∃ s', e = .returned s' ∧ w'.ownsRow B 4 1 s' (m + n) (bools (xs ++ lowBits v n)) ∧ Below B w w' := by
  go_enter Try.func84, Try.ntmps84
  go_wp2
  go_loopw [0, 7] (fun s' i wr => ∃ k : Nat, k ≤ n ∧ i = .int .i64 ((n : Int) - 1 - k) ∧ wr.ownsRow B 4 1 s' (m + k) (bools (xs ++ lowFrom v n k)) ∧ Below B w wr)
     (fun _ i _ => (intOf i + 1).toNat)
  case atStart => exact ⟨0, Nat.zero_le _, by go_num, by simpa [lowFrom] using ho, Below.refl _ _⟩
  case round =>
    obtain ⟨k, hk, rfl, hown, hbel⟩ := hrel
    have hsz := hbel.size
    by_cases hlt : k < n
    · go_wp2_with (at_builtin; refine wpList_push rfl _ _ 22 rfl B 4 (.bool false) 1 Try.infoBool rfl Try.underlying22 _ rfl (m + k) _ hown _ rfl rfl ?_ ?_ hbel ?_ ?_)
      · omega
      · omega
      · omega
      intro s2 w2 hown2 hbel2 _
      rw [bit_eq, ← bools_one, ← bools_append, List.append_assoc, ← lowFrom_succ] at hown2
      clear hown
      go_wp2
      go_roundw
      case rel => exact ⟨k + 1, by omega, by go_num, hown2, hbel2⟩
      case measure => simp [intOf]; omega
    · obtain rfl : k = n := by omega
      go_wp2
      go_ret
      exact ⟨_, rfl, hown, hbel⟩

/-- What Append gives: the bits, or an error. -/
def appRes (xs : List Bool) (v n : Int) : List Bool × Int :=
  if n < 0 ∨ 62 < n then ([], 3) else if 1048576 - n < (xs.length : Int) then ([], 4) else (xs ++ lowBits v n.toNat, 0)
theorem appRes_1 {xs : List Bool} {v n : Int} (h : n < 0 ∨ 62 < n) : appRes xs v n = ([], 3) := by unfold appRes; rw [if_pos h]
theorem appRes_2 {xs : List Bool} {v n : Int} (h : ¬ (n < 0 ∨ 62 < n)) (h2 : 1048576 - n < (xs.length : Int)) : appRes xs v n = ([], 4) := by unfold appRes; rw [if_neg h, if_pos h2]
theorem appRes_3 {xs : List Bool} {v n : Int} (h : ¬ (n < 0 ∨ 62 < n)) (h2 : ¬ 1048576 - n < (xs.length : Int)) : appRes xs v n = (xs ++ lowBits v n.toNat, 0) := by unfold appRes; rw [if_neg h, if_neg h2]

end Go.Proofs.Ytjkpdhcnklgfbaa
