/-
  Contracts of bch.minimum and barscanref08.Distance, Encode, Distance.
  Conditions: the numbers are small (they stand in each contract).
-/
import Derived.Test.YtddlklnmmnohhaaBchD
import Derived.Test.YtddlklnmmnohhaaCodePlain
namespace Go.Proofs.Ytddlklnmmnohhaa
open Go.RowKit Go.Bs Go.Bch

theorem one_shl (k : Nat) (h : k ≤ 40) : wrap64 ((2 : Int) ^ k) = (pw k : Int) := by
  have e1 : (2 : Int) ^ k = (pw k : Int) := by unfold pw; rw [Int.natCast_pow]; simp
  have := pw_le k 40 h
  have h40 : pw 40 = 1099511627776 := rfl
  rw [e1]; exact IntWalk.wrap64_in _ ⟨by omega, by omega⟩

set_option maxRecDepth 20000 in
set_option maxHeartbeats 400000 in
theorem minimum_any (k g : Nat) (w : World) (hk1 : 1 ≤ k) (hk : k ≤ 12) (hg1 : 3 ≤ g) (hg2 : g < 524288) :
    Calls Try.prog 33 #[.int .i64 k, .int .i64 g] w fun e w' => e = .returned (.int .i64 (dist k g)) ∧ w = w' := by
  have hb := deg_bd g hg1 hg2
  have HD := Lib.hid (dist_same k g hk1 hk hg1 hg2)
  have hp := one_shl k (by omega)
  have hp1 := pw_le 1 k hk1
  have hp12 := pw_le k 12 hk
  have h12 : pw 12 = 4096 := rfl
  have h1' : pw 1 = 2 := rfl
  have HPW : Hid (2 ^ k = pw k) := rfl
  have hd31 := dist_le k g
  obtain ⟨P, hP⟩ : ∃ P, P = pw k := ⟨_, rfl⟩
  rw [← hP] at hp hp1 hp12 HPW
  obtain ⟨D, hD⟩ : ∃ D, D = dist k g := ⟨_, rfl⟩
  rw [← hD] at HD hd31 ⊢
  clear hP hD
  go_enter Try.func33, Try.ntmps33
  go_wp2_with fail
  refine (degree_pos g _ (by omega) (by omega)).mono ?_
  rintro e w' ⟨rfl, rfl⟩
  go_wp2_with fail
  go_loop [5, 6] (fun x y => ∃ m v : Nat, v + 1 ≤ P ∧ m ≤ 31 ∧ Hid (m = mw g (k + g.log2) v) ∧ x = .int .i64 m ∧ y = .int .i64 (v + 1 : Nat)) (fun _ y => P - (intOf y).toNat)
  case atStart => exact ⟨k + g.log2, 0, by omega, by omega, rfl, by go_num, rfl⟩
  case round =>
    obtain ⟨m, v, hv, hm, HM, rfl, rfl⟩ := hrel
    by_cases h1 : v + 1 < P
    · have hcl : cw (v + 1) g < 1073741824 := by
        have := cw_lt g (v + 1) 12 hg1 (by omega) (by omega)
        have h3 := pow2_le (12 + g.log2) 30 (by omega)
        exact Nat.lt_of_lt_of_le this h3
      have hwl := wt_lt 30 _ hcl
      have HC : Hid (min m (wt (cw (v + 1) g)) = mw g (k + g.log2) (v + 1)) := by show _ = _; rw [HM.out]; rfl
      obtain ⟨c, hc⟩ : ∃ c, c = cw (v + 1) g := ⟨_, rfl⟩
      rw [← hc] at hcl hwl HC
      have HCW := Lib.hid hc
      clear hc
      go_wp2_with fail
      refine (codeword_any (v + 1) g _ (by omega) hg1 hg2).mono ?_
      rw [← HCW.out]
      rintro e w' ⟨rfl, rfl⟩
      go_wp2_with fail
      refine (onescount_any c _ (by omega)).mono ?_
      rintro e w' ⟨rfl, rfl⟩
      go_wp2_with fail
      go_round
      case rel => exact ⟨min m (wt c), v + 1, by omega, by omega, HC, int_eq (by omega), int_eq (by omega)⟩
      case measure => simp [intOf]; omega
    · have HF : Hid (m = D) := by
        show _ = _
        rw [HM.out, ← HD.out, HPW.out, show P - 1 = v by omega]
      go_wp2_with fail
      go_ret
      exact ⟨ret_int (by rw [HF.out]), rfl⟩

def two (p : Int × Int) : Value := .tuple #[.int .i64 p.1, .int .i64 p.2]
def three (p : Int × Int × Int) : Value := .tuple #[.int .i64 p.1, .int .i64 p.2.1, .int .i64 p.2.2]

set_option maxRecDepth 20000 in
set_option maxHeartbeats 400000 in
theorem rdistance_ok (k g : Nat) (w : World) (hval : valP k g) :
    Calls Try.prog 14 #[.int .i64 k, .int .i64 g] w fun e w' => e = .returned (two (dist k g, 0)) ∧ w = w' := by
  have HV := Lib.hid hval
  have hk1 : 1 ≤ k := by have := hval.1; omega
  have hk : k ≤ 12 := by have := hval.2.1; omega
  have hg1 : 3 ≤ g := by have := hval.2.2.1; omega
  have hg2 : g < 524288 := by have := hval.2.2.2.1; omega
  clear hval
  have hb := deg_bd g hg1 hg2
  have HD : Hid (mw g 31 (2 ^ k - 1) = dist k g) := rfl
  have hp1 := pw_le 1 k hk1
  have hp12 := pw_le k 12 hk
  have h12 : pw 12 = 4096 := rfl
  have h1' : pw 1 = 2 := rfl
  have HPW : Hid (2 ^ k = pw k) := rfl
  have hd31 := dist_le k g
  obtain ⟨P, hP⟩ : ∃ P, P = pw k := ⟨_, rfl⟩
  rw [← hP] at hp1 hp12 HPW
  have HP := Lib.hid hP
  obtain ⟨D, hD⟩ : ∃ D, D = dist k g := ⟨_, rfl⟩
  rw [← hD] at HD hd31 ⊢
  clear hP hD
  go_enter Try.func14, Try.ntmps14
  go_wp2_with fail
  refine (right_yes k g _ HV.out).mono ?_
  rintro e w' ⟨rfl, rfl⟩
  go_wp2_with fail
  go_loop [6, 7] (fun x y => ∃ m v : Nat, v + 1 ≤ P ∧ m ≤ 31 ∧ Hid (m = mw g 31 v) ∧ x = .int .i64 m ∧ y = .int .i64 (v + 1 : Nat)) (fun _ y => P - (intOf y).toNat)
  case atStart => exact ⟨31, 0, by omega, by omega, rfl, rfl, rfl⟩
  case round =>
    obtain ⟨m, v, hv, hm, HM, rfl, rfl⟩ := hrel
    by_cases h1 : v + 1 < P
    · have hcl : cw (v + 1) g < 1073741824 := by
        have := cw_lt g (v + 1) 12 hg1 (by omega) (by omega)
        have h3 := pow2_le (12 + g.log2) 30 (by omega)
        exact Nat.lt_of_lt_of_le this h3
      have hwl := wt_lt 30 _ hcl
      have HC : Hid (min m (wt (cw (v + 1) g)) = mw g 31 (v + 1)) := by show _ = _; rw [HM.out]; rfl
      obtain ⟨c, hc⟩ : ∃ c, c = cw (v + 1) g := ⟨_, rfl⟩
      rw [← hc] at hcl hwl HC
      have HCW := Lib.hid hc
      clear hc
      go_wp2_with fail
      refine (power_any k _ (by omega)).mono ?_
      rw [← HP.out]
      rintro e w' ⟨rfl, rfl⟩
      go_wp2_with fail
      refine (rcodeword_any (v + 1) g _ (by omega) hg1 hg2).mono ?_
      rw [← HCW.out]
      rintro e w' ⟨rfl, rfl⟩
      go_wp2_with fail
      refine (weight_any c _ (by omega)).mono ?_
      rintro e w' ⟨rfl, rfl⟩
      go_wp2_with fail
      go_round
      case rel => exact ⟨min m (wt c), v + 1, by omega, by omega, HC, int_eq (by omega), int_eq (by omega)⟩
      case measure => simp [intOf]; omega
    · have HF : Hid (m = D) := by
        show _ = _
        rw [HM.out, ← HD.out, HPW.out, show P - 1 = v by omega]
      go_wp2_with fail
      refine (power_any k _ (by omega)).mono ?_
      rw [← HP.out]
      rintro e w' ⟨rfl, rfl⟩
      go_wp2_with fail
      go_ret2
      exact ⟨by simp [two, HF.out], rfl⟩

theorem nats {k g : Int} (h : valP k g) : ∃ k' g' : Nat, k = k' ∧ g = g' := by
  obtain ⟨h1, h2, h3, h4, h5⟩ := h
  exact ⟨k.toNat, g.toNat, by omega, by omega⟩

def distRes (k g : Int) : Int × Int := if valP k g then (dist k.toNat g.toNat, 0) else (0, 1)

theorem rdistance_any (k g : Int) (w : World) :
    Calls Try.prog 14 #[.int .i64 k, .int .i64 g] w fun e w' => e = .returned (two (distRes k g)) ∧ w = w' := by
  by_cases hv : valP k g
  · obtain ⟨k', g', rfl, rfl⟩ := nats hv
    rw [show distRes (k' : Int) (g' : Int) = ((dist k' g' : Int), 0) from by unfold distRes; rw [if_pos hv]; rfl]
    exact rdistance_ok k' g' w hv
  · rw [show distRes k g = (0, 1) from by unfold distRes; rw [if_neg hv]]
    go_enter Try.func14, Try.ntmps14
    go_wp2_with fail
    refine (right_no k g _ hv).mono ?_
    rintro e w' ⟨rfl, rfl⟩
    go_wp2_with fail
    go_ret2
    exact ⟨rfl, rfl⟩

theorem distance_any (k g : Int) (w : World) :
    Calls Try.prog 13 #[.int .i64 k, .int .i64 g] w fun e w' => e = .returned (two (distRes k g)) ∧ w = w' := by
  by_cases hv : valP k g
  · obtain ⟨k', g', rfl, rfl⟩ := nats hv
    rw [show distRes (k' : Int) (g' : Int) = ((dist k' g' : Int), 0) from by unfold distRes; rw [if_pos hv]; rfl]
    go_enter Try.func13, Try.ntmps13
    go_wp2_with fail
    refine (valid_yes _ _ _ hv).mono ?_
    rintro e w' ⟨rfl, rfl⟩
    go_wp2_with fail
    obtain ⟨h1, h2, h3, h4, h5⟩ := hv
    refine (minimum_any k' g' _ (by omega) (by omega) (by omega) (by omega)).mono ?_
    rintro e w' ⟨rfl, rfl⟩
    go_wp2_with fail
    go_ret2
    exact ⟨rfl, rfl⟩
  · rw [show distRes k g = (0, 1) from by unfold distRes; rw [if_neg hv]]
    go_enter Try.func13, Try.ntmps13
    go_wp2_with fail
    refine (valid_no k g _ hv).mono ?_
    rintro e w' ⟨rfl, rfl⟩
    go_wp2_with fail
    go_ret2
    exact ⟨rfl, rfl⟩

end Go.Proofs.Ytddlklnmmnohhaa
