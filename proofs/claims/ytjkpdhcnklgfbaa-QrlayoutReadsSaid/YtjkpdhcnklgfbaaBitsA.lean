/-
  Contracts of bits.number, bits.Take, barscanref01.Take, barscanref01.Same.
  Conditions: the slices' cells are those of the lists; lengths fit in an int.
-/
import Derived.Test.YtjkpdhcnklgfbaaRows
import Derived.Test.YtjkpdhcnklgfbaaLib
import Derived.Test.YtjkpdhcnklgfbaaNum
import Derived.Test.YtjkpdhcnklgfbaaRet
import Derived.Test.YtjkpdhcnklgfbaaInfo
import Derived.Deep.QuietTactic
import Derived.BigQuiet
namespace Go.Proofs.Ytjkpdhcnklgfbaa
open Go.RowKit Go.Bs

set_option maxHeartbeats 400000 in
theorem number_any (ao : Option Addr) (len cap : Nat) (xs : List Bool) (w : World) (hl : xs.length = len) (hb : len ≤ 62) (hr : Row w ao (bools xs)) :
    Calls Try.prog 85 #[.slice ao len cap] w fun e w' => e = .returned (.int .i64 (num xs)) ∧ w = w' := by
  have HL := Lib.hid hl
  have hle : xs.length ≤ len := by omega
  have hge : len ≤ xs.length := by omega
  clear hl
  go_enter Try.func85, Try.ntmps85
  go_wp2
  go_loop [3, 5, 8] (fun v _ i => ∃ k : Nat, k ≤ len ∧ i = .int .i64 k ∧ v = .int .i64 (num (xs.take k))) (fun _ _ i => len - (intOf i).toNat)
  case atStart => exact ⟨0, Nat.zero_le _, rfl, rfl⟩
  case round =>
    obtain ⟨k, hk, rfl, rfl⟩ := hrel
    by_cases hlt : k < len
    · obtain ⟨a, rfl, hc⟩ := hr.at (bools_at xs k (by omega))
      obtain ⟨b0, b1⟩ := num_take_bd xs k (by omega)
      have hS := num_take xs k (by omega)
      cases hv : xs[k] <;> rw [hv] at hc hS <;> simp only [Bool.false_eq_true, if_false, if_true, Int.add_zero] at hS <;> have HS := Lib.hid hS <;> clear hS hv
      all_goals
        go_wp2
        go_round
        case rel => exact ⟨k + 1, by omega, by go_num, int_eq (by first | (have := HS.out; omega) | (rw [i64_or_one _ (by omega) (by omega)]; have := HS.out; omega))⟩
        case measure => simp [intOf]; omega
    · go_wp2
      go_ret
      rw [List.take_of_length_le (by omega)]
      exact ⟨rfl, rfl⟩

def takeRes (xs : List Bool) (at' n : Int) : Int × Int :=
  if n < 0 ∨ 62 < n ∨ at' < 0 ∨ (xs.length : Int) < at' then (0, 3) else if (xs.length : Int) - at' < n then (0, 10) else (num ((xs.drop at'.toNat).take n.toNat), 0)

theorem takeRes_1 {xs : List Bool} {at' n : Int} (h : n < 0 ∨ 62 < n ∨ at' < 0 ∨ (xs.length : Int) < at') : takeRes xs at' n = (0, 3) := by unfold takeRes; rw [if_pos h]
theorem takeRes_2 {xs : List Bool} {at' n : Int} (h : ¬ (n < 0 ∨ 62 < n ∨ at' < 0 ∨ (xs.length : Int) < at')) (h2 : (xs.length : Int) - at' < n) : takeRes xs at' n = (0, 10) := by unfold takeRes; rw [if_neg h, if_pos h2]
theorem takeRes_3 {xs : List Bool} {at' n : Int} (h : ¬ (n < 0 ∨ 62 < n ∨ at' < 0 ∨ (xs.length : Int) < at')) (h2 : ¬ (xs.length : Int) - at' < n) :
    takeRes xs at' n = (num ((xs.drop at'.toNat).take n.toNat), 0) := by unfold takeRes; rw [if_neg h, if_neg h2]

set_option maxHeartbeats 400000 in
theorem same_any (ao bo : Option Addr) (la ca lb cb : Nat) (xs ys : List Bool) (w : World) (hx : xs.length = la) (hy : ys.length = lb) (hb : la ≤ 4611686018427387904) (hr : Row w ao (bools xs)) (hs : Row w bo (bools ys)) :
    Calls Try.prog 42 #[.slice ao la ca, .slice bo lb cb] w fun e w' => e = .returned (.bool (xs == ys)) ∧ Ext w w' := by
  have HX := Lib.hid hx
  have HY := Lib.hid hy
  by_cases hne : la = lb
  · subst hne
    have h1 : xs.length ≤ la := by omega
    have h2 : la ≤ xs.length := by omega
    have h3 : ys.length ≤ la := by omega
    have h4 : la ≤ ys.length := by omega
    clear hx hy
    go_enter Try.func42, Try.ntmps42
    go_wp2
    go_loopw [5] (fun i wr => ∃ k : Nat, k ≤ la ∧ i = .int .i64 k ∧ xs.take k = ys.take k ∧ Ext w wr) (fun i _ => la - (intOf i).toNat)
    case atStart => exact ⟨0, Nat.zero_le _, rfl, rfl, Ext.refl _⟩
    case round =>
      obtain ⟨k, hk, rfl, heq, hext⟩ := hrel
      have HEQ := Lib.hid heq
      clear heq
      by_cases hlt : k < la
      · obtain ⟨a, rfl, hca⟩ := (hr.ext hext).at (bools_at xs k (by omega))
        obtain ⟨b, rfl, hcb⟩ := (hs.ext hext).at (bools_at ys k (by omega))
        go_wp2
        go_quiet (fail)
        go_wp2
        · go_ret
          have hd : ¬ xs[k] = ys[k] := by intro h; have hh : (!xs[k] == ys[k]) = true := by assumption
                                          rw [h] at hh; simp at hh
          have : (xs == ys) = false := by
            rw [beq_eq_false_iff_ne]; intro h; subst h; exact hd rfl
          rw [this]
          exact ⟨rfl, hext.drewN _⟩
        · have hd : xs[k] = ys[k] := by have hh : (!xs[k] == ys[k]) = false := by assumption
                                        simpa using hh
          go_roundw
          case rel => exact ⟨k + 1, by omega, by go_num, by rw [List.take_succ_eq_append_getElem (by omega), List.take_succ_eq_append_getElem (by omega), HEQ.out, hd], hext.drewN _⟩
          case measure => simp [intOf]; omega
      · go_wp2
        go_ret
        have := HEQ.out
        rw [List.take_of_length_le (by omega), List.take_of_length_le (by omega)] at this
        exact ⟨by rw [this]; simp, hext⟩
  · have hne' : ((la : Int) != lb) = true := by simp; omega
    clear hx hy
    go_enter Try.func42, Try.ntmps42
    go_wp2
    go_ret
    have : (xs == ys) = false := by
      rw [beq_eq_false_iff_ne]; intro h; subst h; exact hne (HX.out.symm.trans HY.out)
    rw [this]
    exact ⟨rfl, Ext.refl _⟩

end Go.Proofs.Ytjkpdhcnklgfbaa
