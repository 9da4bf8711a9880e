/-
  Contracts of bits.Weight, barscanref01.Weight, bits.Distance, barscanref01.Distance, barscanref01.Ints.
  Conditions: the slices' cells are those of the lists; lengths are bounded.
-/
import Derived.Test.YtkkfldnkenbplaaBitsB
namespace Go.Proofs.Ytkkfldnkenbplaa
open Go.RowKit Go.Bs

/-- How many of the bits are set. -/
def cnt (l : List Bool) : Int := (l.filter id).length
theorem cnt_bd (l : List Bool) : 0 ≤ cnt l ∧ cnt l ≤ l.length := by
  unfold cnt; exact ⟨by omega, by have := List.length_filter_le id l; omega⟩
theorem cnt_take (l : List Bool) (k : Nat) (h : k < l.length) : cnt (l.take (k + 1)) = cnt (l.take k) + if l[k] then 1 else 0 := by
  unfold cnt
  rw [List.take_succ_eq_append_getElem h, List.filter_append, List.length_append]
  cases l[k] <;> simp
theorem cnt_take_bd (l : List Bool) (k : Nat) : 0 ≤ cnt (l.take k) ∧ cnt (l.take k) ≤ k := by
  have := cnt_bd (l.take k); have := List.length_take_le k l; omega

/-- Where two lists of bits differ. -/
def diffs (xs ys : List Bool) : List Bool := List.zipWith (fun a b => !a == b) xs ys
theorem length_diffs (xs ys : List Bool) (h : xs.length = ys.length) : (diffs xs ys).length = xs.length := by simp [diffs, h]
theorem diffs_at (xs ys : List Bool) (k : Nat) (h : k < xs.length) (h' : k < ys.length) : (diffs xs ys)[k]'(by simp [diffs]; omega) = (!xs[k] == ys[k]) := by simp [diffs]
def distRes (xs ys : List Bool) : Int × Int := if xs.length = ys.length then (cnt (diffs xs ys), 0) else (0, 7)
theorem cnt_diffs (xs ys : List Bool) (k : Nat) (h : k < xs.length) (h' : k < ys.length) :
    cnt ((diffs xs ys).take (k + 1)) = cnt ((diffs xs ys).take k) + if (!xs[k] == ys[k]) = true then 1 else 0 := by
  rw [cnt_take _ _ (by simp [diffs]; omega), diffs_at xs ys k h h']

set_option maxHeartbeats 400000 in
theorem weight_any (ao : Option Addr) (len cap : Nat) (xs : List Bool) (w : World) (hl : xs.length = len) (hb : len ≤ 4611686018427387904) (hr : Row w ao (bools xs)) :
    Calls Try.prog 32 #[.slice ao len cap] w fun e w' => e = .returned (.int .i64 (cnt xs)) ∧ w = w' := by
  have hle : xs.length ≤ len := by omega
  have hge : len ≤ xs.length := by omega
  clear hl
  go_enter Try.func32, Try.ntmps32
  go_wp2
  go_loop [3, 5, 8] (fun v _ i => ∃ k : Nat, k ≤ len ∧ i = .int .i64 k ∧ v = .int .i64 (cnt (xs.take k))) (fun _ _ i => len - (intOf i).toNat)
  case atStart => exact ⟨0, Nat.zero_le _, rfl, rfl⟩
  case round =>
    obtain ⟨k, hk, rfl, rfl⟩ := hrel
    by_cases hlt : k < len
    · obtain ⟨a, rfl, hc⟩ := hr.at (bools_at xs k (by omega))
      obtain ⟨b0, b1⟩ := cnt_take_bd xs k
      have hS := cnt_take xs k (by omega)
      cases hv : xs[k] <;> rw [hv] at hc hS <;> simp only [Bool.false_eq_true, if_false, if_true, Int.add_zero] at hS <;> have HS := Lib.hid hS <;> clear hS hv
      all_goals
        go_wp2
        go_round
        case rel => exact ⟨k + 1, by omega, by go_num, int_eq HS.out.symm⟩
        case measure => simp [intOf]; omega
    · go_wp2
      go_ret
      rw [List.take_of_length_le (by omega)]
      exact ⟨rfl, rfl⟩

set_option maxHeartbeats 400000 in
theorem rweight_any (ao : Option Addr) (len cap : Nat) (xs : List Bool) (w : World) (hl : xs.length = len) (hb : len ≤ 4611686018427387904) (hr : Row w ao (bools xs)) :
    Calls Try.prog 33 #[.slice ao len cap] w fun e w' => e = .returned (.int .i64 (cnt xs)) ∧ w = w' := by
  have hle : xs.length ≤ len := by omega
  have hge : len ≤ xs.length := by omega
  clear hl
  go_enter Try.func33, Try.ntmps33
  go_wp2
  go_loop [3, 4] (fun v i => ∃ k : Nat, k ≤ len ∧ i = .int .i64 k ∧ v = .int .i64 (cnt (xs.take k))) (fun _ i => len - (intOf i).toNat)
  case atStart => exact ⟨0, Nat.zero_le _, rfl, rfl⟩
  case round =>
    obtain ⟨k, hk, rfl, rfl⟩ := hrel
    by_cases hlt : k < len
    · obtain ⟨a, rfl, hc⟩ := hr.at (bools_at xs k (by omega))
      obtain ⟨b0, b1⟩ := cnt_take_bd xs k
      have hS := cnt_take xs k (by omega)
      cases hv : xs[k] <;> rw [hv] at hc hS <;> simp only [Bool.false_eq_true, if_false, if_true, Int.add_zero] at hS <;> have HS := Lib.hid hS <;> clear hS hv
      all_goals
        go_wp2
        go_round
        case rel => exact ⟨k + 1, by omega, by go_num, int_eq HS.out.symm⟩
        case measure => simp [intOf]; omega
    · go_wp2
      go_ret
      rw [List.take_of_length_le (by omega)]
      exact ⟨rfl, rfl⟩

set_option maxHeartbeats 400000 in
theorem distance_any (ao bo : Option Addr) (la ca lb cb : Nat) (xs ys : List Bool) (w : World) (hx : xs.length = la) (hy : ys.length = lb) (hb : la ≤ 4611686018427387904) (hr : Row w ao (bools xs)) (hs : Row w bo (bools ys)) :
    Calls Try.prog 28 #[.slice ao la ca, .slice bo lb cb] w fun e w' => e = .returned (two (distRes xs ys)) ∧ Ext w w' := by
  by_cases hne : la = lb
  · subst hne
    have HD : Hid (distRes xs ys = (cnt (diffs xs ys), 0)) := by unfold distRes; rw [if_pos (by omega)]; rfl
    have HN : Hid ((diffs xs ys).length = la) := (length_diffs xs ys (by omega)).trans hx
    have h1 : xs.length ≤ la := by omega
    have h2 : la ≤ xs.length := by omega
    have h3 : ys.length ≤ la := by omega
    have h4 : la ≤ ys.length := by omega
    clear hx hy
    go_enter Try.func28, Try.ntmps28
    go_wp2
    go_loopw [6, 7, 15] (fun v _ i wr => ∃ k : Nat, k ≤ la ∧ i = .int .i64 k ∧ v = .int .i64 (cnt ((diffs xs ys).take k)) ∧ Ext w wr) (fun _ _ i _ => la - (intOf i).toNat)
    case atStart => exact ⟨0, Nat.zero_le _, rfl, rfl, Ext.refl _⟩
    case round =>
      obtain ⟨k, hk, rfl, rfl, hext⟩ := hrel
      by_cases hlt : k < la
      · obtain ⟨a, rfl, hca⟩ := (hr.ext hext).at (bools_at xs k (by omega))
        obtain ⟨b, rfl, hcb⟩ := (hs.ext hext).at (bools_at ys k (by omega))
        obtain ⟨b0, b1⟩ := cnt_take_bd (diffs xs ys) k
        have HS := Lib.hid (cnt_diffs xs ys k (by omega) (by omega))
        go_wp2
        go_quiet (fail)
        go_wp2
        · have hd : (!xs[k] == ys[k]) = true := by assumption
          go_roundw
          case rel => exact ⟨k + 1, by omega, by go_num, int_eq (by rw [HS.out, if_pos hd]), hext.drewN _⟩
          case measure => simp [intOf]; omega
        · have hd : (!xs[k] == ys[k]) = false := by assumption
          go_roundw
          case rel => exact ⟨k + 1, by omega, by go_num, int_eq (by rw [HS.out, if_neg (by rw [hd]; decide)]; omega), hext.drewN _⟩
          case measure => simp [intOf]; omega
      · go_wp2
        go_ret2
        rw [List.take_of_length_le (by have := HN.out; omega), HD.out]
        exact ⟨rfl, hext⟩
  · have hne' : ((la : Int) != lb) = true := by simp; omega
    have HD : Hid (distRes xs ys = (0, 7)) := by unfold distRes; rw [if_neg (by omega)]; rfl
    clear hx hy
    go_enter Try.func28, Try.ntmps28
    go_wp2
    go_ret2
    rw [HD.out]
    exact ⟨rfl, Ext.refl _⟩

set_option maxHeartbeats 400000 in
theorem rdistance_any (ao bo : Option Addr) (la ca lb cb : Nat) (xs ys : List Bool) (w : World) (hx : xs.length = la) (hy : ys.length = lb) (hb : la ≤ 4611686018427387904) (hr : Row w ao (bools xs)) (hs : Row w bo (bools ys)) :
    Calls Try.prog 29 #[.slice ao la ca, .slice bo lb cb] w fun e w' => e = .returned (two (distRes xs ys)) ∧ Ext w w' := by
  by_cases hne : la = lb
  · subst hne
    have HD : Hid (distRes xs ys = (cnt (diffs xs ys), 0)) := by unfold distRes; rw [if_pos (by omega)]; rfl
    have HN : Hid ((diffs xs ys).length = la) := (length_diffs xs ys (by omega)).trans hx
    have h1 : xs.length ≤ la := by omega
    have h2 : la ≤ xs.length := by omega
    have h3 : ys.length ≤ la := by omega
    have h4 : la ≤ ys.length := by omega
    clear hx hy
    go_enter Try.func29, Try.ntmps29
    go_wp2
    go_loopw [6, 7] (fun v i wr => ∃ k : Nat, k ≤ la ∧ i = .int .i64 k ∧ v = .int .i64 (cnt ((diffs xs ys).take k)) ∧ Ext w wr) (fun _ i _ => la - (intOf i).toNat)
    case atStart => exact ⟨0, Nat.zero_le _, rfl, rfl, Ext.refl _⟩
    case round =>
      obtain ⟨k, hk, rfl, rfl, hext⟩ := hrel
      by_cases hlt : k < la
      · obtain ⟨a, rfl, hca⟩ := (hr.ext hext).at (bools_at xs k (by omega))
        obtain ⟨b, rfl, hcb⟩ := (hs.ext hext).at (bools_at ys k (by omega))
        obtain ⟨b0, b1⟩ := cnt_take_bd (diffs xs ys) k
        have HS := Lib.hid (cnt_diffs xs ys k (by omega) (by omega))
        go_wp2
        go_quiet (fail)
        go_wp2
        · have hd : (!xs[k] == ys[k]) = true := by assumption
          go_roundw
          case rel => exact ⟨k + 1, by omega, by go_num, int_eq (by rw [HS.out, if_pos hd]), hext.drewN _⟩
          case measure => simp [intOf]; omega
        · have hd : (!xs[k] == ys[k]) = false := by assumption
          go_roundw
          case rel => exact ⟨k + 1, by omega, by go_num, int_eq (by rw [HS.out, if_neg (by rw [hd]; decide)]; omega), hext.drewN _⟩
          case measure => simp [intOf]; omega
      · go_wp2
        go_ret2
        rw [List.take_of_length_le (by have := HN.out; omega), HD.out]
        exact ⟨rfl, hext⟩
  · have hne' : ((la : Int) != lb) = true := by simp; omega
    have HD : Hid (distRes xs ys = (0, 7)) := by unfold distRes; rw [if_neg (by omega)]; rfl
    clear hx hy
    go_enter Try.func29, Try.ntmps29
    go_wp2
    go_ret2
    rw [HD.out]
    exact ⟨rfl, Ext.refl _⟩

set_option maxHeartbeats 400000 in
theorem ints_any (ao bo : Option Addr) (la ca lb cb : Nat) (xs ys : List Int) (w : World) (hx : xs.length = la) (hy : ys.length = lb) (hb : la ≤ 4611686018427387904) (hr : Row w ao (ints xs)) (hs : Row w bo (ints ys)) :
    Calls Try.prog 22 #[.slice ao la ca, .slice bo lb cb] w fun e w' => e = .returned (.bool (xs == ys)) ∧ Ext w w' := by
  have HX := Lib.hid hx
  have HY := Lib.hid hy
  by_cases hne : la = lb
  · subst hne
    have h1 : xs.length ≤ la := by omega
    have h2 : la ≤ xs.length := by omega
    have h3 : ys.length ≤ la := by omega
    have h4 : la ≤ ys.length := by omega
    clear hx hy
    go_enter Try.func22, Try.ntmps22
    go_wp2
    go_loopw [5] (fun i wr => ∃ k : Nat, k ≤ la ∧ i = .int .i64 k ∧ xs.take k = ys.take k ∧ Ext w wr) (fun i _ => la - (intOf i).toNat)
    case atStart => exact ⟨0, Nat.zero_le _, rfl, rfl, Ext.refl _⟩
    case round =>
      obtain ⟨k, hk, rfl, heq, hext⟩ := hrel
      have HEQ := Lib.hid heq
      clear heq
      by_cases hlt : k < la
      · obtain ⟨a, rfl, hca⟩ := (hr.ext hext).at (ints_at xs k (by omega))
        obtain ⟨b, rfl, hcb⟩ := (hs.ext hext).at (ints_at ys k (by omega))
        by_cases hd : xs[k] = ys[k]
        · have hq : (xs[k] != ys[k]) = false := by simp [hd]
          have HDD := Lib.hid hd
          clear hd
          go_wp2
          go_quiet (fail)
          go_wp2
          go_roundw
          case rel => exact ⟨k + 1, by omega, by go_num, by rw [List.take_succ_eq_append_getElem (by omega), List.take_succ_eq_append_getElem (by omega), HEQ.out, HDD.out], hext.drewN _⟩
          case measure => simp [intOf]; omega
        · have hq : (xs[k] != ys[k]) = true := by simp [hd]
          go_wp2
          go_quiet (fail)
          go_wp2
          go_ret
          have : (xs == ys) = false := by
            rw [beq_eq_false_iff_ne]; intro h; subst h; exact hd rfl
          rw [this]
          exact ⟨rfl, hext.drewN _⟩
      · go_wp2
        go_ret
        have := HEQ.out
        rw [List.take_of_length_le (by omega), List.take_of_length_le (by omega)] at this
        exact ⟨by rw [this]; simp, hext⟩
  · have hne' : ((la : Int) != lb) = true := by simp; omega
    clear hx hy
    go_enter Try.func22, Try.ntmps22
    go_wp2
    go_ret
    have : (xs == ys) = false := by
      rw [beq_eq_false_iff_ne]; intro h; subst h; exact hne (HX.out.symm.trans HY.out)
    rw [this]
    exact ⟨rfl, Ext.refl _⟩

end Go.Proofs.Ytkkfldnkenbplaa
