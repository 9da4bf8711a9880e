/-
  Contracts of bits.appendLow, bits.Append, barscanref01.Append.
  Conditions: the slices' cells are those of the lists; lengths are bounded.
-/
import Derived.Test.YthebfpolijajgaaBitsA
import Derived.Test.YthebfpolijajgaaRet
namespace Go.Proofs.Ythebfpolijajgaa
open Go.RowKit Go.Bs


set_option maxHeartbeats 400000 in
theorem appendLow_any (B : Nat) (s : Value) (m : Nat) (xs : List Bool) (v : Int) (n : Nat) (w : World) (hn : n ≤ 62) (hm : m ≤ 4194304)
    (ho : w.ownsRow B 4 1 s m (bools xs)) (hB : B ≤ w.heap.size) :
    Calls Try.prog 92 #[s, .int .i64 v, .int .i64 n] w fun e w' => ∃ s', e = .returned s' ∧ w'.ownsRow B 4 1 s' (m + n) (bools (xs ++ lowBits v n)) ∧ Below B w w' := by
  go_enter Try.func92, Try.ntmps92
  go_wp2
  go_loopw [0, 7] (fun s' i wr => ∃ k : Nat, k ≤ n ∧ i = .int .i64 ((n : Int) - 1 - k) ∧ wr.ownsRow B 4 1 s' (m + k) (bools (xs ++ lowFrom v n k)) ∧ Below B w wr)
     (fun _ i _ => (intOf i + 1).toNat)
  case atStart => exact ⟨0, Nat.zero_le _, by go_num, by simpa [lowFrom] using ho, Below.refl _ _⟩
  case round =>
    obtain ⟨k, hk, rfl, hown, hbel⟩ := hrel
    have hsz := hbel.size
    by_cases hlt : k < n
    · go_wp2_with (at_builtin; refine wpList_push rfl _ _ 40 rfl B 4 (.bool false) 1 Try.infoBool rfl Try.underlying40 _ rfl (m + k) _ hown _ rfl rfl ?_ ?_ hbel ?_ ?_)
      · omega
      · omega
      · omega
      intro s2 w2 hown2 hbel2 _
      rw [bit_eq, ← bools_one, ← bools_append, List.append_assoc, ← lowFrom_succ] at hown2
      clear hown
      go_wp2
      go_roundw
      case rel => exact ⟨k + 1, by omega, by go_num, hown2, hbel2⟩
      case measure => simp [intOf]; omega
    · obtain rfl : k = n := by omega
      go_wp2
      go_ret
      exact ⟨_, rfl, hown, hbel⟩

/-- What Append gives: the bits, or an error. -/
def appRes (xs : List Bool) (v n : Int) : List Bool × Int :=
  if n < 0 ∨ 62 < n then ([], 3) else if 1048576 - n < (xs.length : Int) then ([], 4) else (xs ++ lowBits v n.toNat, 0)
theorem appRes_1 {xs : List Bool} {v n : Int} (h : n < 0 ∨ 62 < n) : appRes xs v n = ([], 3) := by unfold appRes; rw [if_pos h]
theorem appRes_2 {xs : List Bool} {v n : Int} (h : ¬ (n < 0 ∨ 62 < n)) (h2 : 1048576 - n < (xs.length : Int)) : appRes xs v n = ([], 4) := by unfold appRes; rw [if_neg h, if_pos h2]
theorem appRes_3 {xs : List Bool} {v n : Int} (h : ¬ (n < 0 ∨ 62 < n)) (h2 : ¬ 1048576 - n < (xs.length : Int)) : appRes xs v n = (xs ++ lowBits v n.toNat, 0) := by unfold appRes; rw [if_neg h, if_neg h2]

set_option maxHeartbeats 400000 in
theorem append_any (ao : Option Addr) (len cap : Nat) (xs : List Bool) (v n : Int) (w : World) (hl : xs.length = len) (hb : len ≤ 4611686018427387904) (hr : Row w ao (bools xs)) :
    Calls Try.prog 84 #[.slice ao len cap, .int .i64 v, .int .i64 n] w (RetSl w (bools (appRes xs v n).1, (appRes xs v n).2)) := by
  have HL := Lib.hid hl
  have hle : xs.length ≤ len := by omega
  have hge : len ≤ xs.length := by omega
  clear hl
  go_enter Try.func84, Try.ntmps84
  go_wp2_with (first
    | (at_make; refine wpList_make (ws := w) rfl _ _ 40 rfl w.heap.size 4 (.bool false) 1 Try.infoBool rfl Try.underlying40 _ _ _ _ rfl rfl len (len + n.toNat) rfl ?_ ?_ ?_ ?_ (Below.refl _ _) (Nat.le_refl _) ?_))
  all_goals try (go_ret2; first | (rw [appRes_1 (by omega)]; exact RetSl.nil _ _ _ (Ext.refl _)) | (rw [appRes_2 (by omega) (by omega)]; exact RetSl.nil _ _ _ (Ext.refl _)))
  · omega
  · omega
  · omega
  · omega
  intro w1 hown1 hb1 _
  go_wp2_with ((with_reducible show wpList _ _ _ (⟨some 29, _, _, _, _, _⟩ :: _) _ _); refine wpList_copyAll (ws := w) rfl _ _ 40 _ rfl w.heap.size 4 (.bool false) 1 Try.infoBool Try.underlying40 _ _ _ rfl _ hown1 _ _ _ rfl (bools xs) (hr.ext hb1) ?_ (Nat.le_refl _) (bools_oneCell _) hb1 ?_)
  · rw [length_bools]; exact HL.out
  intro w2 hown2 hb2
  obtain ⟨q, rfl⟩ := Int.eq_ofNat_of_zero_le (show 0 ≤ n by omega)
  go_wp2_with (go_at_call 92; refine (appendLow_any w.heap.size _ len xs v q _ ?_ ?_ hown2 ?_).mono ?_)
  · omega
  · omega
  · exact hb2.size
  rintro e w3 ⟨s3, rfl, hown3, hb3⟩
  go_wp2
  go_ret2
  rw [appRes_3 (by omega) (by omega)]
  exact RetSl.own hown3 (hb2.trans hb3)

set_option maxHeartbeats 400000 in
theorem rappend_any (ao : Option Addr) (len cap : Nat) (xs : List Bool) (v n : Int) (w : World) (hl : xs.length = len) (hb : len ≤ 4611686018427387904) (hn0 : ao = none → cap = 0) (hr : Row w ao (bools xs)) :
    Calls Try.prog 67 #[.slice ao len cap, .int .i64 v, .int .i64 n] w (RetSl w (bools (appRes xs v n).1, (appRes xs v n).2)) := by
  have HL := Lib.hid hl
  have hle : xs.length ≤ len := by omega
  have hge : len ≤ xs.length := by omega
  clear hl
  go_enter Try.func67, Try.ntmps67
  go_wp2_with (at_builtin; refine wpList_pushAll (ws := w) rfl _ _ 40 rfl w.heap.size 4 (.bool false) 1 Try.infoBool rfl Try.underlying40 _ rfl 0 [] (World.ownsRow_nil _ _ _ _) _ _ _ rfl (bools xs) hr ?_ hn0 (bools_oneCell _) ?_ ?_ (Below.refl _ _) (Nat.le_refl _) ?_)
  all_goals try (go_ret2; first | (rw [appRes_1 (by omega)]; exact RetSl.nil _ _ _ (Ext.refl _)) | (rw [appRes_2 (by omega) (by omega)]; exact RetSl.nil _ _ _ (Ext.refl _)))
  · rw [length_bools]; exact HL.out
  · omega
  · omega
  intro s1 w1 hown1 hb1 _
  obtain ⟨q, rfl⟩ := Int.eq_ofNat_of_zero_le (show 0 ≤ n by omega)
  try simp only [Nat.zero_add, List.nil_append] at hown1
  go_wp2
  go_loopw [8, 9] (fun s' i wr => ∃ k : Nat, k ≤ q ∧ i = .int .i64 ((q : Int) - 1 - k) ∧ wr.ownsRow w.heap.size 4 1 s' (len + k) (bools (xs ++ lowFrom v q k)) ∧ Below w.heap.size w wr)
     (fun _ i _ => (intOf i + 1).toNat)
  case atStart => exact ⟨0, Nat.zero_le _, by go_num, by simpa [lowFrom] using hown1, hb1⟩
  case round =>
    clear hown1 hb1
    obtain ⟨k, hk, rfl, hown, hbel⟩ := hrel
    have hsz := hbel.size
    by_cases hlt : k < q
    · go_wp2_with (at_builtin; refine wpList_push rfl _ _ 40 rfl w.heap.size 4 (.bool false) 1 Try.infoBool rfl Try.underlying40 _ rfl (len + k) _ hown _ rfl rfl ?_ ?_ hbel ?_ ?_)
      · omega
      · omega
      · omega
      intro s2 w2 hown2 hbel2 _
      clear hown
      go_wp2
      go_roundw
      case rel =>
        refine ⟨k + 1, by omega, by go_num, ?_, hbel2⟩
        rw [lowFrom_succ, ← List.append_assoc, bools_append, bools_one, ← bit_eq]
        exact hown2
      case measure => simp [intOf]; omega
    · obtain rfl : k = q := by omega
      go_wp2
      go_ret2
      rw [appRes_3 (by omega) (by omega)]
      exact RetSl.own hown hbel

end Go.Proofs.Ythebfpolijajgaa
