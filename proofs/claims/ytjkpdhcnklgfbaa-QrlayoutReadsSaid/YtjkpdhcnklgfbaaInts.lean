/-
  The contract of barscanref01.Ints.
  Conditions: the slices' cells are those of the lists; lengths fit in an int.
-/
import Derived.Test.YtjkpdhcnklgfbaaRows
import Derived.Test.YtjkpdhcnklgfbaaLib
import Derived.Deep.QuietTactic
import Derived.BigQuiet
namespace Go.Proofs.Ytjkpdhcnklgfbaa
open Go.RowKit Go.Bs

set_option maxHeartbeats 400000 in
theorem ints_any (ao bo : Option Addr) (la ca lb cb : Nat) (xs ys : List Int) (w : World) (hx : xs.length = la) (hy : ys.length = lb) (hb : la ≤ 4611686018427387904) (hr : Row w ao (ints xs)) (hs : Row w bo (ints ys)) :
    Calls Try.prog 34 #[.slice ao la ca, .slice bo lb cb] w fun e w' => e = .returned (.bool (xs == ys)) ∧ Ext w w' := by
  have HX := Lib.hid hx
  have HY := Lib.hid hy
  by_cases hne : la = lb
  · subst hne
    have h1 : xs.length ≤ la := by omega
    have h2 : la ≤ xs.length := by omega
    have h3 : ys.length ≤ la := by omega
    have h4 : la ≤ ys.length := by omega
    clear hx hy
    go_enter Try.func34, Try.ntmps34
    go_wp2
    go_loopw [5] (fun i wr => ∃ k : Nat, k ≤ la ∧ i = .int .i64 k ∧ xs.take k = ys.take k ∧ Ext w wr) (fun i _ => la - (intOf i).toNat)
    case atStart => exact ⟨0, Nat.zero_le _, rfl, rfl, Ext.refl _⟩
    case round =>
      obtain ⟨k, hk, rfl, heq, hext⟩ := hrel
      have HEQ := Lib.hid heq
      clear heq
      by_cases hlt : k < la
      · obtain ⟨a, rfl, hca⟩ := (hr.ext hext).at (ints_at xs k (by omega))
        obtain ⟨b, rfl, hcb⟩ := (hs.ext hext).at (ints_at ys k (by omega))
        by_cases hd : xs[k] = ys[k]
        · have hq : (xs[k] != ys[k]) = false := by simp [hd]
          have HDD := Lib.hid hd
          clear hd
          go_wp2
          go_quiet (fail)
          go_wp2
          go_roundw
          case rel => exact ⟨k + 1, by omega, by go_num, by rw [List.take_succ_eq_append_getElem (by omega), List.take_succ_eq_append_getElem (by omega), HEQ.out, HDD.out], hext.drewN _⟩
          case measure => simp [intOf]; omega
        · have hq : (xs[k] != ys[k]) = true := by simp [hd]
          go_wp2
          go_quiet (fail)
          go_wp2
          go_ret
          have : (xs == ys) = false := by
            rw [beq_eq_false_iff_ne]; intro h; subst h; exact hd rfl
          rw [this]
          exact ⟨rfl, hext.drewN _⟩
      · go_wp2
        go_ret
        have := HEQ.out
        rw [List.take_of_length_le (by omega), List.take_of_length_le (by omega)] at this
        exact ⟨by rw [this]; simp, hext⟩
  · have hne' : ((la : Int) != lb) = true := by simp; omega
    clear hx hy
    go_enter Try.func34, Try.ntmps34
    go_wp2
    go_ret
    have : (xs == ys) = false := by
      rw [beq_eq_false_iff_ne]; intro h; subst h; exact hne (HX.out.symm.trans HY.out)
    rw [this]
    exact ⟨rfl, Ext.refl _⟩


end Go.Proofs.Ytjkpdhcnklgfbaa
