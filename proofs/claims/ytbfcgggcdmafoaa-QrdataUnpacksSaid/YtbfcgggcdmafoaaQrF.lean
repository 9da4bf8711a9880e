/-
  Contracts of barscanref18.Equal, of the laws' own bits and same.
  Conditions: the slices' cells are those of the lists; lengths fit in an int.
-/
import Derived.Test.YtbfcgggcdmafoaaQrE
namespace Go.Proofs.Ytbfcgggcdmafoaa
open Go.RowKit Go.Bs Go.Mode Go.Qr

set_option maxHeartbeats 400000 in
theorem equal_any (ao bo : Option Addr) (la ca lb cb : Nat) (xs ys : List Int) (w : World) (hx : xs.length = la) (hy : ys.length = lb) (hb : la ≤ 4611686018427387904) (hr : Row w ao (ints xs)) (hs : Row w bo (ints ys)) :
    Calls Try.prog 28 #[.slice ao la ca, .slice bo lb cb] w fun e w' => e = .returned (.bool (xs == ys)) ∧ Ext w w' := by
  have HX := Lib.hid hx
  have HY := Lib.hid hy
  by_cases hne : la = lb
  · subst hne
    have h1 : xs.length ≤ la := by omega
    have h2 : la ≤ xs.length := by omega
    have h3 : ys.length ≤ la := by omega
    have h4 : la ≤ ys.length := by omega
    clear hx hy
    go_enter Try.func28, Try.ntmps28
    go_wp2
    go_loopw [5] (fun i wr => ∃ k : Nat, k ≤ la ∧ i = .int .i64 k ∧ xs.take k = ys.take k ∧ Ext w wr) (fun i _ => la - (intOf i).toNat)
    case atStart => exact ⟨0, Nat.zero_le _, rfl, rfl, Ext.refl _⟩
    case round =>
      obtain ⟨k, hk, rfl, heq, hext⟩ := hrel
      have HEQ := Lib.hid heq
      clear heq
      by_cases hlt : k < la
      · obtain ⟨a, rfl, hca⟩ := (hr.ext hext).at (Go.Bs.ints_at xs k (by omega))
        obtain ⟨b, rfl, hcb⟩ := (hs.ext hext).at (Go.Bs.ints_at ys k (by omega))
        by_cases hd : xs[k] = ys[k]
        · have hq : (xs[k] != ys[k]) = false := by simp [hd]
          have HDD := Lib.hid hd
          clear hd
          go_wp2
          go_quiet (fail)
          go_wp2
          go_roundw
          case rel => exact ⟨k + 1, by omega, by go_num, by rw [List.take_succ_eq_append_getElem (by omega), List.take_succ_eq_append_getElem (by omega), HEQ.out, HDD.out], hext.drewN _⟩
          case measure => simp [intOf]; omega
        · have hq : (xs[k] != ys[k]) = true := by simp [hd]
          go_wp2
          go_quiet (fail)
          go_wp2
          go_ret
          have : (xs == ys) = false := by
            rw [beq_eq_false_iff_ne]; intro h; subst h; exact hd rfl
          rw [this]
          exact ⟨rfl, hext.drewN _⟩
      · go_wp2
        go_ret
        have := HEQ.out
        rw [List.take_of_length_le (by omega), List.take_of_length_le (by omega)] at this
        exact ⟨by rw [this]; simp, hext⟩
  · have hne' : ((la : Int) != lb) = true := by simp; omega
    clear hx hy
    go_enter Try.func28, Try.ntmps28
    go_wp2
    go_ret
    have : (xs == ys) = false := by
      rw [beq_eq_false_iff_ne]; intro h; subst h; exact hne (HX.out.symm.trans HY.out)
    rw [this]
    exact ⟨rfl, Ext.refl _⟩



set_option maxHeartbeats 400000 in
theorem lbits_any (ao bo : Option Addr) (la ca lb cb : Nat) (xs ys : List Bool) (w : World) (hx : xs.length = la) (hy : ys.length = lb) (hb : la ≤ 4611686018427387904) (hr : Row w ao (bools xs)) (hs : Row w bo (bools ys)) :
    Calls Try.prog 11 #[.slice ao la ca, .slice bo lb cb] w fun e w' => e = .returned (.bool (xs == ys)) ∧ Ext w w' := by
  have HX := Lib.hid hx
  have HY := Lib.hid hy
  by_cases hne : la = lb
  · subst hne
    have h1 : xs.length ≤ la := by omega
    have h2 : la ≤ xs.length := by omega
    have h3 : ys.length ≤ la := by omega
    have h4 : la ≤ ys.length := by omega
    clear hx hy
    go_enter Try.func11, Try.ntmps11
    go_wp2
    go_loopw [5, 13] (fun _ i wr => ∃ k : Nat, k ≤ la ∧ i = .int .i64 k ∧ xs.take k = ys.take k ∧ Ext w wr) (fun _ i _ => la - (intOf i).toNat)
    case atStart => exact ⟨0, Nat.zero_le _, rfl, rfl, Ext.refl _⟩
    case round =>
      obtain ⟨k, hk, rfl, heq, hext⟩ := hrel
      have HEQ := Lib.hid heq
      clear heq
      by_cases hlt : k < la
      · obtain ⟨a, rfl, hca⟩ := (hr.ext hext).at (bools_at xs k (by omega))
        obtain ⟨b, rfl, hcb⟩ := (hs.ext hext).at (bools_at ys k (by omega))
        go_wp2
        go_quiet (fail)
        go_wp2
        · go_ret
          have hd : ¬ xs[k] = ys[k] := by intro h; have hh : (!xs[k] == ys[k]) = true := by assumption
                                          rw [h] at hh; simp at hh
          have : (xs == ys) = false := by
            rw [beq_eq_false_iff_ne]; intro h; subst h; exact hd rfl
          rw [this]
          exact ⟨rfl, hext.drewN _⟩
        · have hd : xs[k] = ys[k] := by have hh : (!xs[k] == ys[k]) = false := by assumption
                                        simpa using hh
          go_roundw
          case rel => exact ⟨k + 1, by omega, by go_num, by rw [List.take_succ_eq_append_getElem (by omega), List.take_succ_eq_append_getElem (by omega), HEQ.out, hd], hext.drewN _⟩
          case measure => simp [intOf]; omega
      · go_wp2
        go_ret
        have := HEQ.out
        rw [List.take_of_length_le (by omega), List.take_of_length_le (by omega)] at this
        exact ⟨by rw [this]; simp, hext⟩
  · have hne' : ((la : Int) != lb) = true := by simp; omega
    clear hx hy
    go_enter Try.func11, Try.ntmps11
    go_wp2
    go_ret
    have : (xs == ys) = false := by
      rw [beq_eq_false_iff_ne]; intro h; subst h; exact hne (HX.out.symm.trans HY.out)
    rw [this]
    exact ⟨rfl, Ext.refl _⟩

set_option maxHeartbeats 400000 in
theorem lsame_any (ao bo : Option Addr) (la ca lb cb : Nat) (xs ys : List Int) (w : World) (hx : xs.length = la) (hy : ys.length = lb) (hb : la ≤ 4611686018427387904) (hr : Row w ao (ints xs)) (hs : Row w bo (ints ys)) :
    Calls Try.prog 15 #[.slice ao la ca, .slice bo lb cb] w fun e w' => e = .returned (.bool (xs == ys)) ∧ Ext w w' := by
  have HE := Lib.hid (equal_any ao bo la ca lb cb xs ys w hx hy hb hr hs)
  clear hx hy
  go_enter Try.func15, Try.ntmps15
  go_wp2_with fail
  refine HE.out.mono ?_
  rintro e w1 ⟨rfl, hx1⟩
  go_wp2_with fail
  go_ret
  exact ⟨rfl, hx1⟩

end Go.Proofs.Ytbfcgggcdmafoaa
