/-
  Contracts of the small functions: degree, power, Weight, ones, valid, right.
  Conditions: the numbers are small (they stand in each contract).
-/
import Derived.Test.YtddlklnmmnohhaaBchA
namespace Go.Proofs.Ytddlklnmmnohhaa
open Go.RowKit Go.Bs Go.Bch

def pw (n : Nat) : Nat := 2 ^ n
theorem pw_le (a b : Nat) (h : a ≤ b) : pw a ≤ pw b := pow2_le a b h
theorem pw_pos (a : Nat) : 0 < pw a := Nat.pow_pos (by decide)
theorem pw_succ (a : Nat) : pw (a + 1) = 2 * pw a := by unfold pw; rw [Nat.pow_succ]; omega

/-- There is such a code. -/
def valP (k g : Int) : Prop := 1 ≤ k ∧ k ≤ 12 ∧ 3 ≤ g ∧ g ≤ 524287 ∧ g % 2 = 1
instance (k g : Int) : Decidable (valP k g) := by unfold valP; exact inferInstance
theorem valP_not {k g : Int} (h : ¬ valP k g) : k < 1 ∨ (1 ≤ k ∧ 12 < k) ∨ (1 ≤ k ∧ k ≤ 12 ∧ g < 3) ∨ (1 ≤ k ∧ k ≤ 12 ∧ 3 ≤ g ∧ 524287 < g) ∨ (1 ≤ k ∧ k ≤ 12 ∧ 3 ≤ g ∧ g ≤ 524287 ∧ g % 2 ≠ 1) := by
  unfold valP at h; omega

set_option maxHeartbeats 400000 in
theorem rdegree_any (g : Nat) (w : World) (h0 : 0 < g) (h : g < 4611686018427387904) :
    Calls Try.prog 36 #[.int .i64 g] w fun e w' => e = .returned (.int .i64 g.log2) ∧ w = w' := by
  have HL : Hid ((0 : Nat) + g.log2 = g.log2) := by show _ = _; omega
  go_enter Try.func36, Try.ntmps36
  go_wp2_with fail
  go_loop [0, 3] (fun x y => ∃ r k : Nat, 0 < r ∧ r < 4611686018427387904 ∧ k + r < 4611686018427387999 ∧ Hid (k + r.log2 = g.log2) ∧ x = .int .i64 r ∧ y = .int .i64 k) (fun x _ => (intOf x).toNat)
  case atStart => exact ⟨g, 0, h0, h, by omega, HL, rfl, rfl⟩
  case round =>
    obtain ⟨r, k, hr0, hr, hk, HK, rfl, rfl⟩ := hrel
    by_cases h1 : 1 < r
    · have HK2 : Hid (k + 1 + (r / 2).log2 = g.log2) := by
        have := HK.out; rw [Nat.log2_def r, if_pos (by omega)] at this; show _ = _; omega
      go_wp2_with fail
      go_round
      case rel => exact ⟨r / 2, k + 1, by omega, by omega, by omega, HK2, by go_num, by go_num⟩
      case measure => simp [intOf]; omega
    · have HK2 : Hid (k = g.log2) := by
        have := HK.out; rw [Nat.log2_def r, if_neg (by omega)] at this; show _ = _; omega
      go_wp2_with fail
      go_ret
      exact ⟨ret_int (by rw [HK2.out]), rfl⟩

set_option maxHeartbeats 400000 in
theorem ldegree_any (g : Nat) (w : World) (h0 : 0 < g) (h : g < 4611686018427387904) :
    Calls Try.prog 18 #[.int .i64 g] w fun e w' => e = .returned (.int .i64 g.log2) ∧ w = w' := by
  have HL : Hid ((0 : Nat) + g.log2 = g.log2) := by show _ = _; omega
  go_enter Try.func18, Try.ntmps18
  go_wp2_with fail
  go_loop [0, 3] (fun x y => ∃ r k : Nat, 0 < r ∧ r < 4611686018427387904 ∧ k + r < 4611686018427387999 ∧ Hid (k + r.log2 = g.log2) ∧ x = .int .i64 r ∧ y = .int .i64 k) (fun x _ => (intOf x).toNat)
  case atStart => exact ⟨g, 0, h0, h, by omega, HL, rfl, rfl⟩
  case round =>
    obtain ⟨r, k, hr0, hr, hk, HK, rfl, rfl⟩ := hrel
    by_cases h1 : 1 < r
    · have HK2 : Hid (k + 1 + (r / 2).log2 = g.log2) := by
        have := HK.out; rw [Nat.log2_def r, if_pos (by omega)] at this; show _ = _; omega
      go_wp2_with fail
      go_round
      case rel => exact ⟨r / 2, k + 1, by omega, by omega, by omega, HK2, by go_num, by go_num⟩
      case measure => simp [intOf]; omega
    · have HK2 : Hid (k = g.log2) := by
        have := HK.out; rw [Nat.log2_def r, if_neg (by omega)] at this; show _ = _; omega
      go_wp2_with fail
      go_ret
      exact ⟨ret_int (by rw [HK2.out]), rfl⟩

set_option maxHeartbeats 400000 in
theorem weight_any (n : Nat) (w : World) (h : n < 4611686018427387904) :
    Calls Try.prog 34 #[.int .i64 n] w fun e w' => e = .returned (.int .i64 (wt n)) ∧ w = w' := by
  have HL : Hid ((0 : Nat) + wt n = wt n) := by show _ = _; omega
  have hw62 := wt_lt 62 n h
  go_enter Try.func34, Try.ntmps34
  go_wp2_with fail
  go_loop [0, 3] (fun x y => ∃ r k : Nat, r < 4611686018427387904 ∧ k ≤ 62 ∧ Hid (k + wt r = wt n) ∧ x = .int .i64 r ∧ y = .int .i64 k) (fun x _ => (intOf x).toNat)
  case atStart => exact ⟨n, 0, h, by omega, HL, rfl, rfl⟩
  case round =>
    obtain ⟨r, k, hr, hk, HK, rfl, rfl⟩ := hrel
    by_cases h1 : 0 < r
    · have hs := wt_step r
      have HK2 : Hid (k + r % 2 + wt (r / 2) = wt n) := by
        have := HK.out; show _ = _; omega
      have hk2 : k + r % 2 ≤ 62 := by have := HK2.out; omega
      clear hs
      go_wp2_with fail
      go_round
      case rel => exact ⟨r / 2, k + r % 2, by omega, hk2, HK2, by go_num, by go_num⟩
      case measure => simp [intOf]; omega
    · have HK2 : Hid (k = wt n) := by
        have := HK.out; rw [show r = 0 by omega, wt_zero] at this; exact this
      go_wp2_with fail
      go_ret
      exact ⟨ret_int (by rw [HK2.out]), rfl⟩

set_option maxHeartbeats 400000 in
theorem ones_any (n : Nat) (w : World) (h : n < 4611686018427387904) :
    Calls Try.prog 19 #[.int .i64 n] w fun e w' => e = .returned (.int .i64 (wt n)) ∧ w = w' := by
  have HL : Hid ((0 : Nat) + wt n = wt n) := by show _ = _; omega
  have hw62 := wt_lt 62 n h
  go_enter Try.func19, Try.ntmps19
  go_wp2_with fail
  go_loop [0, 3] (fun x y => ∃ r k : Nat, r < 4611686018427387904 ∧ k ≤ 62 ∧ Hid (k + wt r = wt n) ∧ x = .int .i64 r ∧ y = .int .i64 k) (fun x _ => (intOf x).toNat)
  case atStart => exact ⟨n, 0, h, by omega, HL, rfl, rfl⟩
  case round =>
    obtain ⟨r, k, hr, hk, HK, rfl, rfl⟩ := hrel
    by_cases h1 : 0 < r
    · have hs := wt_step r
      have HK2 : Hid (k + r % 2 + wt (r / 2) = wt n) := by
        have := HK.out; show _ = _; omega
      have hk2 : k + r % 2 ≤ 62 := by have := HK2.out; omega
      clear hs
      go_wp2_with fail
      go_round
      case rel => exact ⟨r / 2, k + r % 2, by omega, hk2, HK2, by go_num, by go_num⟩
      case measure => simp [intOf]; omega
    · have HK2 : Hid (k = wt n) := by
        have := HK.out; rw [show r = 0 by omega, wt_zero] at this; exact this
      go_wp2_with fail
      go_ret
      exact ⟨ret_int (by rw [HK2.out]), rfl⟩

set_option maxHeartbeats 400000 in
theorem valid_yes (k g : Int) (w : World) (h : valP k g) : Calls Try.prog 28 #[.int .i64 k, .int .i64 g] w fun e w' => e = .returned (.bool true) ∧ w = w' := by
  obtain ⟨h1, h2, h3, h4, h5⟩ := h
  have hz : (g % 2 == 1) = true := by simp; omega
  clear h5
  go_enter Try.func28, Try.ntmps28
  go_wp2_with fail
  go_ret
  exact ⟨rfl, rfl⟩

set_option maxHeartbeats 400000 in
theorem valid_no (k g : Int) (w : World) (h : ¬ valP k g) : Calls Try.prog 28 #[.int .i64 k, .int .i64 g] w fun e w' => e = .returned (.bool false) ∧ w = w' := by
  rcases valP_not h with h | ⟨h1, h⟩ | ⟨h1, h2, h⟩ | ⟨h1, h2, h3, h⟩ | ⟨h1, h2, h3, h4, h⟩
  all_goals
    first
      | have hz : (g % 2 == 1) = false := by rw [beq_eq_false_iff_ne]; omega
        clear h
      | skip
    go_enter Try.func28, Try.ntmps28
    go_wp2_with fail
    go_ret
    exact ⟨rfl, rfl⟩

set_option maxHeartbeats 400000 in
theorem right_yes (k g : Int) (w : World) (h : valP k g) : Calls Try.prog 30 #[.int .i64 k, .int .i64 g] w fun e w' => e = .returned (.bool true) ∧ w = w' := by
  obtain ⟨h1, h2, h3, h4, h5⟩ := h
  have hz : (g % 2 == 1) = true := by simp; omega
  clear h5
  go_enter Try.func30, Try.ntmps30
  go_wp2_with fail
  go_ret
  exact ⟨rfl, rfl⟩

set_option maxHeartbeats 400000 in
theorem right_no (k g : Int) (w : World) (h : ¬ valP k g) : Calls Try.prog 30 #[.int .i64 k, .int .i64 g] w fun e w' => e = .returned (.bool false) ∧ w = w' := by
  rcases valP_not h with h | ⟨h1, h⟩ | ⟨h1, h2, h⟩ | ⟨h1, h2, h3, h⟩ | ⟨h1, h2, h3, h4, h⟩
  all_goals
    first
      | have hz : (g % 2 == 1) = false := by rw [beq_eq_false_iff_ne]; omega
        clear h
      | skip
    go_enter Try.func30, Try.ntmps30
    go_wp2_with fail
    go_ret
    exact ⟨rfl, rfl⟩

set_option maxHeartbeats 400000 in
theorem power_any (n : Nat) (w : World) (h : n ≤ 60) :
    Calls Try.prog 31 #[.int .i64 n] w fun e w' => e = .returned (.int .i64 (pw n)) ∧ w = w' := by
  go_enter Try.func31, Try.ntmps31
  go_wp2_with fail
  go_loop [3, 4] (fun x y => ∃ k p : Nat, k ≤ n ∧ Hid (p = pw k) ∧ x = .int .i64 p ∧ y = .int .i64 k) (fun _ y => n - (intOf y).toNat)
  case atStart => exact ⟨0, 1, Nat.zero_le _, rfl, rfl, rfl⟩
  case round =>
    obtain ⟨k, p, hk, HP, rfl, rfl⟩ := hrel
    have hp : p ≤ 1152921504606846976 := by rw [HP.out]; exact pw_le k 60 (by omega)
    by_cases h1 : k < n
    · have HP2 : Hid (2 * p = pw (k + 1)) := by show _ = _; rw [HP.out, pw_succ]
      go_wp2_with fail
      go_round
      case rel => exact ⟨k + 1, 2 * p, by omega, HP2, by go_num, by go_num⟩
      case measure => simp [intOf]; omega
    · obtain rfl : k = n := by omega
      go_wp2_with fail
      go_ret
      exact ⟨ret_int (by rw [HP.out]), rfl⟩

end Go.Proofs.Ytddlklnmmnohhaa
