/-
  Contracts of remainder and codeword of the reference, and of math/bits.OnesCount.
  Conditions: the numbers are small (they stand in each contract).
-/
import Derived.Test.YtddlklnmmnohhaaBchB
namespace Go.Proofs.Ytddlklnmmnohhaa
open Go.RowKit Go.Bs Go.Bch

theorem testBit_div (p i : Nat) : p.testBit i = (p / pw i % 2 == 1) := by
  unfold pw; rw [Nat.testBit_eq_decide_div_mod_eq]; rfl

set_option maxRecDepth 20000 in
set_option maxHeartbeats 400000 in
theorem remainder_any (p g : Nat) (w : World) (hp : p < 1073741824) (hg1 : 3 ≤ g) (hg2 : g < 524288) :
    Calls Try.prog 37 #[.int .i64 p, .int .i64 g] w fun e w' => e = .returned (.int .i64 (red g g.log2 31 p)) ∧ w = w' := by
  have hb := deg_bd g hg1 hg2
  have hlb := log2_bd g (by omega)
  have hskip : red g g.log2 31 p = red g g.log2 (31 - g.log2) p := red_skip g g.log2 31 (31 - g.log2) p (Nat.lt_of_lt_of_le hp (by have := pow2_le 30 (g.log2 + (31 - g.log2)) (by omega); omega)) (by omega)
  rw [hskip]
  clear hskip
  obtain ⟨d, hdd⟩ : ∃ d, d = g.log2 := ⟨_, rfl⟩
  rw [← hdd] at hb hlb ⊢
  have HDD := Lib.hid hdd
  have HLB := Lib.hid hlb
  clear hdd hlb
  obtain ⟨R, hR⟩ : ∃ R, R = red g d (31 - d) p := ⟨_, rfl⟩
  rw [← hR]
  have HR : Hid (red g d (31 - d) p = R) := hR.symm
  clear hR
  go_enter Try.func37, Try.ntmps37
  go_wp2_with fail
  refine (rdegree_any g _ (by omega) (by omega)).mono ?_
  rw [← HDD.out]
  rintro e w' ⟨rfl, rfl⟩
  go_wp2_with fail
  go_loop [0, 6] (fun x i => ∃ r j : Nat, j ≤ 31 - d ∧ r < 2147483648 ∧ Hid (red g d j r = R) ∧ x = .int .i64 r ∧ i = .int .i64 ((d : Int) + j - 1)) (fun _ i => (intOf i + 1).toNat)
  case atStart => exact ⟨p, 31 - d, Nat.le_refl _, by omega, HR, rfl, int_eq (by omega)⟩
  case round =>
    obtain ⟨r, j, hj, hr, HRR, rfl, rfl⟩ := hrel
    by_cases h1 : 0 < j
    · obtain ⟨i, rfl⟩ : ∃ i, j = i + 1 := ⟨j - 1, by omega⟩
      have e1 : ((d : Int) + ((i + 1 : Nat) : Int) - 1) = ((d + i : Nat) : Int) := by omega
      rw [e1]
      have hred : red g d (i + 1) r = red g d i (if r.testBit (d + i) then r ^^^ (g <<< i) else r) := rfl
      have HPW := Lib.hid (testBit_div r (d + i))
      have hpw := pw_le (d + i) 30 (by omega)
      have hpw30 : pw 30 = 1073741824 := rfl
      have hpp := pw_pos (d + i)
      have hpwi := pw_le i 30 (by omega)
      have hppi := pw_pos i
      obtain ⟨P, hP⟩ : ∃ P, P = pw (d + i) := ⟨_, rfl⟩
      obtain ⟨Pi, hPi⟩ : ∃ Pi, Pi = pw i := ⟨_, rfl⟩
      rw [← hP] at hpw hpp HPW
      rw [← hPi] at hpwi hppi
      have HP := Lib.hid hP
      have hq : (g <<< i : Nat) = g * Pi := by rw [hPi, Nat.shiftLeft_eq]; rfl
      have HPi := Lib.hid hPi
      clear hP hPi
      cases hbit : r.testBit (d + i)
      · rw [hbit] at hred HPW
        simp only [Bool.false_eq_true, if_false] at hred
        have HRN : Hid (red g d i r = R) := by show _ = _; rw [← hred]; exact HRR.out
        have ht : ((((r / P % 2 : Nat) : Int)) == 1) = false := by
          have := HPW.out
          have h2 : ¬ (r / P % 2 = 1) := by intro h3; rw [h3] at this; cases this
          rw [beq_eq_false_iff_ne]; omega
        have ht2 : ((r : Int) / (P : Int) % 2 == 1) = false := by rw [← ht]; rfl
        clear hred hbit ht hq
        have hd1 : 0 ≤ (r : Int) / (P : Int) := Int.ediv_nonneg (by omega) (by omega)
        have hd2 : (r : Int) / (P : Int) ≤ 2147483648 := by have := Int.ediv_le_self (P : Int) (show 0 ≤ (r : Int) by omega); omega
        go_wp2_with fail
        refine (power_any (d + i) _ (by omega)).mono ?_
        rw [← HP.out]
        rintro e w' ⟨rfl, rfl⟩
        go_wp2_with fail
        go_round
        case rel => exact ⟨r, i, by omega, hr, HRN, rfl, int_eq (by omega)⟩
        case measure => simp [intOf]; omega
      · rw [hbit] at hred HPW
        simp only [if_true] at hred
        have HRN : Hid (red g d i (r ^^^ (g * Pi)) = R) := by show _ = _; rw [← hq, ← hred]; exact HRR.out
        have hql : g * Pi < 2147483648 := by
          have h4 := (shl_top (j := i) HLB.out.1 HLB.out.2).2
          have h3 := pow2_le (d + i + 1) 31 (by omega)
          rw [hq] at h4
          exact Nat.lt_of_lt_of_le h4 h3
        have hxl : r ^^^ (g * Pi) < 2147483648 := Nat.xor_lt_two_pow (n := 31) hr hql
        have ht2 : ((r : Int) / (P : Int) % 2 == 1) = true := by
          have h5 := HPW.out
          have h2 : r / P % 2 = 1 := by simpa using h5.symm
          have h6 : (((r / P % 2 : Nat) : Int)) = 1 := by omega
          have h7 : ((r : Int) / (P : Int) % 2) = 1 := h6
          rw [h7]; rfl
        have HX : Hid (bits .xor .i64 (r : Int) (wrap64 ((g : Int) * (Pi : Int))) = ((r ^^^ (g * Pi) : Nat) : Int)) := by
          show _ = _
          rw [show (g : Int) * (Pi : Int) = ((g * Pi : Nat) : Int) from (Int.natCast_mul _ _).symm, IntWalk.wrap64_in _ ⟨by omega, by omega⟩]
          exact i64_xor_nat _ _ (by omega) (by omega)
        have hd1 : 0 ≤ (r : Int) / (P : Int) := Int.ediv_nonneg (by omega) (by omega)
        have hd2 : (r : Int) / (P : Int) ≤ 2147483648 := by have := Int.ediv_le_self (P : Int) (show 0 ≤ (r : Int) by omega); omega
        have HXL := Lib.hid hxl
        clear hred hbit hq hql hxl
        go_wp2_with fail
        refine (power_any (d + i) _ (by omega)).mono ?_
        rw [← HP.out]
        rintro e w' ⟨rfl, rfl⟩
        go_wp2_with fail
        rw [show ((d : Int) + i - d) = (i : Int) from by omega]
        refine (power_any i _ (by omega)).mono ?_
        rw [← HPi.out]
        rintro e w' ⟨rfl, rfl⟩
        go_wp2_with fail
        go_round
        case rel => exact ⟨r ^^^ (g * Pi), i, by omega, HXL.out, HRN, int_eq HX.out, int_eq (by omega)⟩
        case measure => simp [intOf]; omega
    · have hR : R = r := by
        rw [← HRR.out, show j = 0 by omega]; rfl
      have HRF := Lib.hid hR
      clear hR
      go_wp2_with fail
      go_ret
      exact ⟨ret_int (by rw [HRF.out]), rfl⟩

set_option maxRecDepth 20000 in
set_option maxHeartbeats 400000 in
theorem rcodeword_any (v g : Nat) (w : World) (hv : v < 4096) (hg1 : 3 ≤ g) (hg2 : g < 524288) :
    Calls Try.prog 32 #[.int .i64 v, .int .i64 g] w fun e w' => e = .returned (.int .i64 (cw v g)) ∧ w = w' := by
  have hb := deg_bd g hg1 hg2
  have hrl := rem_lt g v 12 hg1 hv (by omega)
  have hsl := shl_lt v 12 g.log2 hv
  have hcw : cw v g = v <<< g.log2 + red g g.log2 31 (v <<< g.log2) := by unfold cw; rw [add_low _ _ _ hrl]
  have hpd : 2 ^ (12 + g.log2) ≤ 2 ^ 30 := pow2_le _ _ (by omega)
  have hpd' : 2 ^ g.log2 ≤ 2 ^ 18 := pow2_le _ _ (by omega)
  rw [show v <<< g.log2 = v * pw g.log2 from Nat.shiftLeft_eq _ _] at hcw hsl hrl
  obtain ⟨P, hP⟩ : ∃ P, P = pw g.log2 := ⟨_, rfl⟩
  rw [← hP] at hcw hsl hrl
  have HP := Lib.hid hP
  clear hP
  have hN : ((v * P : Nat) : Int) = (v : Int) * (P : Int) := Int.natCast_mul _ _
  have hm1 : 0 ≤ (v : Int) * (P : Int) := by omega
  have hm2 : (v : Int) * (P : Int) < 1073741824 := by omega
  have hred := hrl
  obtain ⟨R, hR⟩ : ∃ R, R = red g g.log2 31 (v * P) := ⟨_, rfl⟩
  rw [← hR] at hcw hrl
  have HR := Lib.hid hR
  have HCW := Lib.hid hcw
  have HN := Lib.hid hN
  have hrl' : R < 262144 := by omega
  have hvp : v * P < 1073741824 := by omega
  clear hR hcw hN hrl hred hsl hpd hpd'
  go_enter Try.func32, Try.ntmps32
  go_wp2_with fail
  refine (rdegree_any g _ (by omega) (by omega)).mono ?_
  rintro e w' ⟨rfl, rfl⟩
  go_wp2_with fail
  refine (power_any _ _ (by omega)).mono ?_
  rw [← HP.out]
  rintro e w' ⟨rfl, rfl⟩
  go_wp2_with fail
  rw [← HN.out]
  refine (remainder_any _ _ _ hvp hg1 hg2).mono ?_
  rw [← HR.out]
  rintro e w' ⟨rfl, rfl⟩
  rw [HN.out]
  go_wp2_with fail
  go_ret
  exact ⟨ret_int (by rw [HCW.out, ← HN.out]; omega), rfl⟩

end Go.Proofs.Ytddlklnmmnohhaa
