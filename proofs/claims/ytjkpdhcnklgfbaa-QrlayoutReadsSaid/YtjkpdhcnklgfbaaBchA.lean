/-
  Contracts of the functions of bch and barscanref08 that reckon with polynomials.
  Conditions: the numbers are small (they stand in each contract).
  Contracts of the small functions: degree, power, Weight, ones, valid, right.
  Conditions: the numbers are small (they stand in each contract).
  Contracts of remainder and codeword of the reference, and of math/bits.OnesCount.
  Conditions: the numbers are small (they stand in each contract).
-/
import Derived.Test.YtjkpdhcnklgfbaaRows
import Derived.Test.YtjkpdhcnklgfbaaLib
import Derived.Test.YtjkpdhcnklgfbaaNum
import Derived.Test.YtjkpdhcnklgfbaaBchPlain
import Derived.Test.YtjkpdhcnklgfbaaShelfLen
import Derived.Test.YtjkpdhcnklgfbaaRet
namespace Go.Proofs.Ytjkpdhcnklgfbaa
open Go.RowKit Go.Bs Go.Bch

theorem bitLenAux_eq : ∀ (f x : Nat), x < 2 ^ f → Lib.bitLenAux f x = if x = 0 then 0 else x.log2 + 1
  | 0, x, h => by have : x = 0 := by simpa using h
                  subst this; rfl
  | f + 1, x, h => by
    unfold Lib.bitLenAux
    by_cases h0 : x = 0
    · rw [if_pos h0, if_pos h0]
    · rw [if_neg h0, if_neg h0, bitLenAux_eq f (x / 2) (by rw [Nat.pow_succ] at h; omega), Nat.log2_def x]
      by_cases h1 : x = 1
      · subst h1; simp
      · rw [if_neg (by omega), if_pos (by omega)]; omega
theorem bitLen_pos {x : Nat} (h0 : 0 < x) (h : x < 18446744073709551616) : Lib.bitLen x = x.log2 + 1 := by
  unfold Lib.bitLen; rw [bitLenAux_eq 64 x h, if_neg (by omega)]

set_option maxHeartbeats 400000 in
theorem degree_pos (p : Nat) (w : World) (h0 : 0 < p) (h : p < 4611686018427387904) :
    Calls Try.prog 89 #[.int .i64 p] w fun e w' => e = .returned (.int .i64 p.log2) ∧ w = w' := by
  have HB := Lib.hid (bitLen_pos h0 (by omega))
  have hl : p.log2 < 62 := (Nat.log2_lt (by omega)).2 h
  go_enter Try.func89, Try.ntmps89
  go_wp2_with fail
  refine (Try.bits_Len _ _ (by omega) (by omega)).mono ?_
  rw [Int.toNat_natCast, HB.out]
  rintro e w' ⟨rfl, rfl⟩
  go_wp2_with fail
  go_ret
  exact ⟨ret_int (by omega), rfl⟩

set_option maxHeartbeats 400000 in
theorem degree_zero (w : World) : Calls Try.prog 89 #[.int .i64 0] w fun e w' => e = .returned (.int .i64 (-1)) ∧ w = w' := by
  go_enter Try.func89, Try.ntmps89
  go_wp2_with fail
  refine (Try.bits_Len _ _ (by omega) (by omega)).mono ?_
  rw [show Lib.bitLen (0 : Int).toNat = 0 from rfl]
  rintro e w' ⟨rfl, rfl⟩
  go_wp2_with fail
  go_ret
  exact ⟨rfl, rfl⟩

set_option maxHeartbeats 400000 in
theorem codeword_any (v g : Nat) (w : World) (hv : v < 4096) (hg1 : 3 ≤ g) (hg2 : g < 524288) :
    Calls Try.prog 74 #[.int .i64 v, .int .i64 g] w fun e w' => e = .returned (.int .i64 (cw v g)) ∧ w = w' := by
  have hb := deg_bd g hg1 hg2
  have hlb := log2_bd g (by omega)
  have hrl := rem_lt g v 12 hg1 hv (by omega)
  have hsl := shl_lt v 12 g.log2 hv
  have hcw : cw v g = v <<< g.log2 ||| red g g.log2 31 (v <<< g.log2) := by unfold cw; rw [or_low _ _ _ hrl]
  obtain ⟨d, hdd⟩ : ∃ d, d = g.log2 := ⟨_, rfl⟩
  have HDD := Lib.hid hdd
  rw [← hdd] at hb hlb hrl hsl hcw
  clear hdd
  have hpd : 2 ^ (12 + d) ≤ 2 ^ 30 := pow2_le _ _ (by omega)
  have hpd' : 2 ^ (d + 1) ≤ 2 ^ 19 := pow2_le _ _ (by omega)
  obtain ⟨p, hp⟩ : ∃ p, p = v <<< d := ⟨_, rfl⟩
  obtain ⟨R, hR⟩ : ∃ R, R = red g d 31 (v <<< d) := ⟨_, rfl⟩
  rw [← hp] at hsl
  rw [← hR] at hrl
  rw [← hR, ← hp] at hcw
  have hpl : p < 1073741824 := by omega
  have hw1 : wrap64 ((v : Int) * 2 ^ d) = (p : Int) := by
    have e1 : (v : Int) * 2 ^ d = (p : Int) := by rw [hp, Nat.shiftLeft_eq, Int.natCast_mul, Int.natCast_pow]; rfl
    rw [e1]; exact IntWalk.wrap64_in _ ⟨by omega, by omega⟩
  have HCW := Lib.hid hcw
  have HR : Hid (red g d 31 p = R) := by show _ = _; rw [hp, hR]
  have HRL := Lib.hid hrl
  have HLB := Lib.hid hlb
  clear hcw hR hp hrl hlb hpd hpd' hsl
  go_enter Try.func74, Try.ntmps74
  go_wp2_with fail
  refine (degree_pos g _ (by omega) (by omega)).mono ?_
  rw [← HDD.out]
  rintro e w' ⟨rfl, rfl⟩
  go_wp2_with fail
  rw [hw1]
  clear hw1
  go_loop [6] (fun x => ∃ r : Nat, r < 1073741824 ∧ Hid (red g d 31 r = R) ∧ x = .int .i64 r) (fun x => (intOf x).toNat)
  case atStart => exact ⟨p, hpl, HR, rfl⟩
  case round =>
    obtain ⟨r, hr, HRR, rfl⟩ := hrel
    by_cases h0 : r = 0
    · subst h0
      go_wp2_with fail
      refine (degree_zero _).mono ?_
      rintro e w' ⟨rfl, rfl⟩
      go_wp2_with fail
      refine (degree_pos g _ (by omega) (by omega)).mono ?_
      rw [← HDD.out]
      rintro e w' ⟨rfl, rfl⟩
      go_wp2_with fail
      go_ret
      have hR0 : R = 0 := by rw [← HRR.out]; exact red_small g d 31 0 (Nat.pow_pos (by decide))
      refine ⟨ret_int ?_, rfl⟩
      rw [HCW.out, hR0, show (0 : Int) = ((0 : Nat) : Int) from rfl, i64_or_nat _ _ (by omega) (by decide)]
    · have hrp : 0 < r := by omega
      clear h0
      have hlb2 := log2_bd r hrp
      obtain ⟨t, htt⟩ : ∃ t, t = r.log2 := ⟨_, rfl⟩
      have HTT := Lib.hid htt
      rw [← htt] at hlb2
      clear htt
      have HLB2 := Lib.hid hlb2
      have ht30 : t < 30 := by
        rcases Nat.lt_or_ge t 30 with h | h
        · exact h
        · have := pow2_le 30 t h; omega
      clear hlb2
      by_cases htd : d ≤ t
      · obtain ⟨q, hq⟩ : ∃ q, q = g <<< (t - d) := ⟨_, rfl⟩
        have hq1 : q < 2 ^ (t + 1) := by
          have := (shl_top (j := t - d) HLB.out.1 HLB.out.2).2
          rw [show d + (t - d) + 1 = t + 1 by omega] at this
          rw [hq]; exact this
        have hq2 : q < 1073741824 := by have := pow2_le (t + 1) 30 (by omega); omega
        have hw2 : wrap64 ((g : Int) * 2 ^ (t - d)) = (q : Int) := by
          have e1 : (g : Int) * 2 ^ (t - d) = (q : Int) := by rw [hq, Nat.shiftLeft_eq, Int.natCast_mul, Int.natCast_pow]; rfl
          rw [e1]; exact IntWalk.wrap64_in _ ⟨by omega, by omega⟩
        have hx2 : bits .xor .i64 (r : Int) (q : Int) = ((r ^^^ q : Nat) : Int) := i64_xor_nat _ _ (by omega) (by omega)
        have hbit : r.testBit (d + (t - d)) = true := by
          rw [show d + (t - d) = t by omega]; exact Nat.testBit_of_two_pow_le_and_two_pow_add_one_gt HLB2.out.1 HLB2.out.2
        have hrt : r < 2 ^ (d + (t - d) + 1) := by rw [show d + (t - d) + 1 = t + 1 by omega]; exact HLB2.out.2
        have hst := sub_top HLB.out.1 HLB.out.2 hrt hbit
        rw [← hq, show d + (t - d) = t by omega] at hst
        have HRN : Hid (red g d 31 (r ^^^ q) = R) := by
          show _ = _
          rw [hq, red_top HLB.out.1 HLB.out.2 31 (t - d) r hrt hbit (by omega)]; exact HRR.out
        have hlt2 : r ^^^ q < r := Nat.lt_of_lt_of_le hst HLB2.out.1
        have htdi : (d : Int) ≤ (t : Int) := by omega
        have HW2 := Lib.hid hw2
        have HX2 := Lib.hid hx2
        clear hq hbit hrt hst hq1 hw2 hx2
        go_wp2_with fail
        refine (degree_pos r _ (by omega) (by omega)).mono ?_
        rw [← HTT.out]
        rintro e w' ⟨rfl, rfl⟩
        go_wp2_with fail
        refine (degree_pos g _ (by omega) (by omega)).mono ?_
        rw [← HDD.out]
        rintro e w' ⟨rfl, rfl⟩
        go_wp2_with fail
        refine (degree_pos r _ (by omega) (by omega)).mono ?_
        rw [← HTT.out]
        rintro e w' ⟨rfl, rfl⟩
        go_wp2_with fail
        refine (degree_pos g _ (by omega) (by omega)).mono ?_
        rw [← HDD.out]
        rintro e w' ⟨rfl, rfl⟩
        go_wp2_with fail
        go_round
        case rel => exact ⟨r ^^^ q, by omega, HRN, by rw [HW2.out, HX2.out]⟩
        case measure => rw [HW2.out, HX2.out]; simp [intOf]; omega
      · have hR0 : R = r := by
          rw [← HRR.out]
          exact red_small g d 31 r (Nat.lt_of_lt_of_le HLB2.out.2 (pow2_le _ _ (by omega)))
        have HR0 := Lib.hid hR0
        clear hR0
        go_wp2_with fail
        refine (degree_pos r _ (by omega) (by omega)).mono ?_
        rw [← HTT.out]
        rintro e w' ⟨rfl, rfl⟩
        go_wp2_with fail
        refine (degree_pos g _ (by omega) (by omega)).mono ?_
        rw [← HDD.out]
        rintro e w' ⟨rfl, rfl⟩
        go_wp2_with fail
        go_ret
        refine ⟨ret_int ?_, rfl⟩
        rw [HCW.out, HR0.out, i64_or_nat _ _ (by omega) (by omega)]

end Go.Proofs.Ytjkpdhcnklgfbaa

namespace Go.Proofs.Ytjkpdhcnklgfbaa
open Go.RowKit Go.Bs Go.Bch

def pw (n : Nat) : Nat := 2 ^ n
theorem pw_le (a b : Nat) (h : a ≤ b) : pw a ≤ pw b := pow2_le a b h
theorem pw_pos (a : Nat) : 0 < pw a := Nat.pow_pos (by decide)
theorem pw_succ (a : Nat) : pw (a + 1) = 2 * pw a := by unfold pw; rw [Nat.pow_succ]; omega

/-- There is such a code. -/
def valP (k g : Int) : Prop := 1 ≤ k ∧ k ≤ 12 ∧ 3 ≤ g ∧ g ≤ 524287 ∧ g % 2 = 1
instance (k g : Int) : Decidable (valP k g) := by unfold valP; exact inferInstance
theorem valP_not {k g : Int} (h : ¬ valP k g) : k < 1 ∨ (1 ≤ k ∧ 12 < k) ∨ (1 ≤ k ∧ k ≤ 12 ∧ g < 3) ∨ (1 ≤ k ∧ k ≤ 12 ∧ 3 ≤ g ∧ 524287 < g) ∨ (1 ≤ k ∧ k ≤ 12 ∧ 3 ≤ g ∧ g ≤ 524287 ∧ g % 2 ≠ 1) := by
  unfold valP at h; omega

set_option maxHeartbeats 400000 in
theorem rdegree_any (g : Nat) (w : World) (h0 : 0 < g) (h : g < 4611686018427387904) :
    Calls Try.prog 91 #[.int .i64 g] w fun e w' => e = .returned (.int .i64 g.log2) ∧ w = w' := by
  have HL : Hid ((0 : Nat) + g.log2 = g.log2) := by show _ = _; omega
  go_enter Try.func91, Try.ntmps91
  go_wp2_with fail
  go_loop [0, 3] (fun x y => ∃ r k : Nat, 0 < r ∧ r < 4611686018427387904 ∧ k + r < 4611686018427387999 ∧ Hid (k + r.log2 = g.log2) ∧ x = .int .i64 r ∧ y = .int .i64 k) (fun x _ => (intOf x).toNat)
  case atStart => exact ⟨g, 0, h0, h, by omega, HL, rfl, rfl⟩
  case round =>
    obtain ⟨r, k, hr0, hr, hk, HK, rfl, rfl⟩ := hrel
    by_cases h1 : 1 < r
    · have HK2 : Hid (k + 1 + (r / 2).log2 = g.log2) := by
        have := HK.out; rw [Nat.log2_def r, if_pos (by omega)] at this; show _ = _; omega
      go_wp2_with fail
      go_round
      case rel => exact ⟨r / 2, k + 1, by omega, by omega, by omega, HK2, by go_num, by go_num⟩
      case measure => simp [intOf]; omega
    · have HK2 : Hid (k = g.log2) := by
        have := HK.out; rw [Nat.log2_def r, if_neg (by omega)] at this; show _ = _; omega
      go_wp2_with fail
      go_ret
      exact ⟨ret_int (by rw [HK2.out]), rfl⟩

set_option maxHeartbeats 400000 in
theorem weight_any (n : Nat) (w : World) (h : n < 4611686018427387904) :
    Calls Try.prog 80 #[.int .i64 n] w fun e w' => e = .returned (.int .i64 (wt n)) ∧ w = w' := by
  have HL : Hid ((0 : Nat) + wt n = wt n) := by show _ = _; omega
  have hw62 := wt_lt 62 n h
  go_enter Try.func80, Try.ntmps80
  go_wp2_with fail
  go_loop [0, 3] (fun x y => ∃ r k : Nat, r < 4611686018427387904 ∧ k ≤ 62 ∧ Hid (k + wt r = wt n) ∧ x = .int .i64 r ∧ y = .int .i64 k) (fun x _ => (intOf x).toNat)
  case atStart => exact ⟨n, 0, h, by omega, HL, rfl, rfl⟩
  case round =>
    obtain ⟨r, k, hr, hk, HK, rfl, rfl⟩ := hrel
    by_cases h1 : 0 < r
    · have hs := wt_step r
      have HK2 : Hid (k + r % 2 + wt (r / 2) = wt n) := by
        have := HK.out; show _ = _; omega
      have hk2 : k + r % 2 ≤ 62 := by have := HK2.out; omega
      clear hs
      go_wp2_with fail
      go_round
      case rel => exact ⟨r / 2, k + r % 2, by omega, hk2, HK2, by go_num, by go_num⟩
      case measure => simp [intOf]; omega
    · have HK2 : Hid (k = wt n) := by
        have := HK.out; rw [show r = 0 by omega, wt_zero] at this; exact this
      go_wp2_with fail
      go_ret
      exact ⟨ret_int (by rw [HK2.out]), rfl⟩

set_option maxHeartbeats 400000 in
theorem valid_yes (k g : Int) (w : World) (h : valP k g) : Calls Try.prog 96 #[.int .i64 k, .int .i64 g] w fun e w' => e = .returned (.bool true) ∧ w = w' := by
  obtain ⟨h1, h2, h3, h4, h5⟩ := h
  have hz : (g % 2 == 1) = true := by simp; omega
  clear h5
  go_enter Try.func96, Try.ntmps96
  go_wp2_with fail
  go_ret
  exact ⟨rfl, rfl⟩

set_option maxHeartbeats 400000 in
theorem valid_no (k g : Int) (w : World) (h : ¬ valP k g) : Calls Try.prog 96 #[.int .i64 k, .int .i64 g] w fun e w' => e = .returned (.bool false) ∧ w = w' := by
  rcases valP_not h with h | ⟨h1, h⟩ | ⟨h1, h2, h⟩ | ⟨h1, h2, h3, h⟩ | ⟨h1, h2, h3, h4, h⟩
  all_goals
    first
      | have hz : (g % 2 == 1) = false := by rw [beq_eq_false_iff_ne]; omega
        clear h
      | skip
    go_enter Try.func96, Try.ntmps96
    go_wp2_with fail
    go_ret
    exact ⟨rfl, rfl⟩

set_option maxHeartbeats 400000 in
theorem power_any (n : Nat) (w : World) (h : n ≤ 60) :
    Calls Try.prog 90 #[.int .i64 n] w fun e w' => e = .returned (.int .i64 (pw n)) ∧ w = w' := by
  go_enter Try.func90, Try.ntmps90
  go_wp2_with fail
  go_loop [3, 4] (fun x y => ∃ k p : Nat, k ≤ n ∧ Hid (p = pw k) ∧ x = .int .i64 p ∧ y = .int .i64 k) (fun _ y => n - (intOf y).toNat)
  case atStart => exact ⟨0, 1, Nat.zero_le _, rfl, rfl, rfl⟩
  case round =>
    obtain ⟨k, p, hk, HP, rfl, rfl⟩ := hrel
    have hp : p ≤ 1152921504606846976 := by rw [HP.out]; exact pw_le k 60 (by omega)
    by_cases h1 : k < n
    · have HP2 : Hid (2 * p = pw (k + 1)) := by show _ = _; rw [HP.out, pw_succ]
      go_wp2_with fail
      go_round
      case rel => exact ⟨k + 1, 2 * p, by omega, HP2, by go_num, by go_num⟩
      case measure => simp [intOf]; omega
    · obtain rfl : k = n := by omega
      go_wp2_with fail
      go_ret
      exact ⟨ret_int (by rw [HP.out]), rfl⟩

end Go.Proofs.Ytjkpdhcnklgfbaa

namespace Go.Proofs.Ytjkpdhcnklgfbaa
open Go.RowKit Go.Bs Go.Bch

theorem testBit_div (p i : Nat) : p.testBit i = (p / pw i % 2 == 1) := by
  unfold pw; rw [Nat.testBit_eq_decide_div_mod_eq]; rfl

set_option maxRecDepth 20000 in
set_option maxHeartbeats 400000 in
theorem remainder_any (p g : Nat) (w : World) (hp : p < 1073741824) (hg1 : 3 ≤ g) (hg2 : g < 524288) :
    Calls Try.prog 92 #[.int .i64 p, .int .i64 g] w fun e w' => e = .returned (.int .i64 (red g g.log2 31 p)) ∧ w = w' := by
  have hb := deg_bd g hg1 hg2
  have hlb := log2_bd g (by omega)
  have hskip : red g g.log2 31 p = red g g.log2 (31 - g.log2) p := red_skip g g.log2 31 (31 - g.log2) p (Nat.lt_of_lt_of_le hp (by have := pow2_le 30 (g.log2 + (31 - g.log2)) (by omega); omega)) (by omega)
  rw [hskip]
  clear hskip
  obtain ⟨d, hdd⟩ : ∃ d, d = g.log2 := ⟨_, rfl⟩
  rw [← hdd] at hb hlb ⊢
  have HDD := Lib.hid hdd
  have HLB := Lib.hid hlb
  clear hdd hlb
  obtain ⟨R, hR⟩ : ∃ R, R = red g d (31 - d) p := ⟨_, rfl⟩
  rw [← hR]
  have HR : Hid (red g d (31 - d) p = R) := hR.symm
  clear hR
  go_enter Try.func92, Try.ntmps92
  go_wp2_with fail
  refine (rdegree_any g _ (by omega) (by omega)).mono ?_
  rw [← HDD.out]
  rintro e w' ⟨rfl, rfl⟩
  go_wp2_with fail
  go_loop [0, 6] (fun x i => ∃ r j : Nat, j ≤ 31 - d ∧ r < 2147483648 ∧ Hid (red g d j r = R) ∧ x = .int .i64 r ∧ i = .int .i64 ((d : Int) + j - 1)) (fun _ i => (intOf i + 1).toNat)
  case atStart => exact ⟨p, 31 - d, Nat.le_refl _, by omega, HR, rfl, int_eq (by omega)⟩
  case round =>
    obtain ⟨r, j, hj, hr, HRR, rfl, rfl⟩ := hrel
    by_cases h1 : 0 < j
    · obtain ⟨i, rfl⟩ : ∃ i, j = i + 1 := ⟨j - 1, by omega⟩
      have e1 : ((d : Int) + ((i + 1 : Nat) : Int) - 1) = ((d + i : Nat) : Int) := by omega
      rw [e1]
      have hred : red g d (i + 1) r = red g d i (if r.testBit (d + i) then r ^^^ (g <<< i) else r) := rfl
      have HPW := Lib.hid (testBit_div r (d + i))
      have hpw := pw_le (d + i) 30 (by omega)
      have hpw30 : pw 30 = 1073741824 := rfl
      have hpp := pw_pos (d + i)
      have hpwi := pw_le i 30 (by omega)
      have hppi := pw_pos i
      obtain ⟨P, hP⟩ : ∃ P, P = pw (d + i) := ⟨_, rfl⟩
      obtain ⟨Pi, hPi⟩ : ∃ Pi, Pi = pw i := ⟨_, rfl⟩
      rw [← hP] at hpw hpp HPW
      rw [← hPi] at hpwi hppi
      have HP := Lib.hid hP
      have hq : (g <<< i : Nat) = g * Pi := by rw [hPi, Nat.shiftLeft_eq]; rfl
      have HPi := Lib.hid hPi
      clear hP hPi
      cases hbit : r.testBit (d + i)
      · rw [hbit] at hred HPW
        simp only [Bool.false_eq_true, if_false] at hred
        have HRN : Hid (red g d i r = R) := by show _ = _; rw [← hred]; exact HRR.out
        have ht : ((((r / P % 2 : Nat) : Int)) == 1) = false := by
          have := HPW.out
          have h2 : ¬ (r / P % 2 = 1) := by intro h3; rw [h3] at this; cases this
          rw [beq_eq_false_iff_ne]; omega
        have ht2 : ((r : Int) / (P : Int) % 2 == 1) = false := by rw [← ht]; rfl
        clear hred hbit ht hq
        have hd1 : 0 ≤ (r : Int) / (P : Int) := Int.ediv_nonneg (by omega) (by omega)
        have hd2 : (r : Int) / (P : Int) ≤ 2147483648 := by have := Int.ediv_le_self (P : Int) (show 0 ≤ (r : Int) by omega); omega
        go_wp2_with fail
        refine (power_any (d + i) _ (by omega)).mono ?_
        rw [← HP.out]
        rintro e w' ⟨rfl, rfl⟩
        go_wp2_with fail
        go_round
        case rel => exact ⟨r, i, by omega, hr, HRN, rfl, int_eq (by omega)⟩
        case measure => simp [intOf]; omega
      · rw [hbit] at hred HPW
        simp only [if_true] at hred
        have HRN : Hid (red g d i (r ^^^ (g * Pi)) = R) := by show _ = _; rw [← hq, ← hred]; exact HRR.out
        have hql : g * Pi < 2147483648 := by
          have h4 := (shl_top (j := i) HLB.out.1 HLB.out.2).2
          have h3 := pow2_le (d + i + 1) 31 (by omega)
          rw [hq] at h4
          exact Nat.lt_of_lt_of_le h4 h3
        have hxl : r ^^^ (g * Pi) < 2147483648 := Nat.xor_lt_two_pow (n := 31) hr hql
        have ht2 : ((r : Int) / (P : Int) % 2 == 1) = true := by
          have h5 := HPW.out
          have h2 : r / P % 2 = 1 := by simpa using h5.symm
          have h6 : (((r / P % 2 : Nat) : Int)) = 1 := by omega
          have h7 : ((r : Int) / (P : Int) % 2) = 1 := h6
          rw [h7]; rfl
        have HX : Hid (bits .xor .i64 (r : Int) (wrap64 ((g : Int) * (Pi : Int))) = ((r ^^^ (g * Pi) : Nat) : Int)) := by
          show _ = _
          rw [show (g : Int) * (Pi : Int) = ((g * Pi : Nat) : Int) from (Int.natCast_mul _ _).symm, IntWalk.wrap64_in _ ⟨by omega, by omega⟩]
          exact i64_xor_nat _ _ (by omega) (by omega)
        have hd1 : 0 ≤ (r : Int) / (P : Int) := Int.ediv_nonneg (by omega) (by omega)
        have hd2 : (r : Int) / (P : Int) ≤ 2147483648 := by have := Int.ediv_le_self (P : Int) (show 0 ≤ (r : Int) by omega); omega
        have HXL := Lib.hid hxl
        clear hred hbit hq hql hxl
        go_wp2_with fail
        refine (power_any (d + i) _ (by omega)).mono ?_
        rw [← HP.out]
        rintro e w' ⟨rfl, rfl⟩
        go_wp2_with fail
        rw [show ((d : Int) + i - d) = (i : Int) from by omega]
        refine (power_any i _ (by omega)).mono ?_
        rw [← HPi.out]
        rintro e w' ⟨rfl, rfl⟩
        go_wp2_with fail
        go_round
        case rel => exact ⟨r ^^^ (g * Pi), i, by omega, HXL.out, HRN, int_eq HX.out, int_eq (by omega)⟩
        case measure => simp [intOf]; omega
    · have hR : R = r := by
        rw [← HRR.out, show j = 0 by omega]; rfl
      have HRF := Lib.hid hR
      clear hR
      go_wp2_with fail
      go_ret
      exact ⟨ret_int (by rw [HRF.out]), rfl⟩

set_option maxRecDepth 20000 in
set_option maxHeartbeats 400000 in
theorem rcodeword_any (v g : Nat) (w : World) (hv : v < 4096) (hg1 : 3 ≤ g) (hg2 : g < 524288) :
    Calls Try.prog 75 #[.int .i64 v, .int .i64 g] w fun e w' => e = .returned (.int .i64 (cw v g)) ∧ w = w' := by
  have hb := deg_bd g hg1 hg2
  have hrl := rem_lt g v 12 hg1 hv (by omega)
  have hsl := shl_lt v 12 g.log2 hv
  have hcw : cw v g = v <<< g.log2 + red g g.log2 31 (v <<< g.log2) := by unfold cw; rw [add_low _ _ _ hrl]
  have hpd : 2 ^ (12 + g.log2) ≤ 2 ^ 30 := pow2_le _ _ (by omega)
  have hpd' : 2 ^ g.log2 ≤ 2 ^ 18 := pow2_le _ _ (by omega)
  rw [show v <<< g.log2 = v * pw g.log2 from Nat.shiftLeft_eq _ _] at hcw hsl hrl
  obtain ⟨P, hP⟩ : ∃ P, P = pw g.log2 := ⟨_, rfl⟩
  rw [← hP] at hcw hsl hrl
  have HP := Lib.hid hP
  clear hP
  have hN : ((v * P : Nat) : Int) = (v : Int) * (P : Int) := Int.natCast_mul _ _
  have hm1 : 0 ≤ (v : Int) * (P : Int) := by omega
  have hm2 : (v : Int) * (P : Int) < 1073741824 := by omega
  have hred := hrl
  obtain ⟨R, hR⟩ : ∃ R, R = red g g.log2 31 (v * P) := ⟨_, rfl⟩
  rw [← hR] at hcw hrl
  have HR := Lib.hid hR
  have HCW := Lib.hid hcw
  have HN := Lib.hid hN
  have hrl' : R < 262144 := by omega
  have hvp : v * P < 1073741824 := by omega
  clear hR hcw hN hrl hred hsl hpd hpd'
  go_enter Try.func75, Try.ntmps75
  go_wp2_with fail
  refine (rdegree_any g _ (by omega) (by omega)).mono ?_
  rintro e w' ⟨rfl, rfl⟩
  go_wp2_with fail
  refine (power_any _ _ (by omega)).mono ?_
  rw [← HP.out]
  rintro e w' ⟨rfl, rfl⟩
  go_wp2_with fail
  rw [← HN.out]
  refine (remainder_any _ _ _ hvp hg1 hg2).mono ?_
  rw [← HR.out]
  rintro e w' ⟨rfl, rfl⟩
  rw [HN.out]
  go_wp2_with fail
  go_ret
  exact ⟨ret_int (by rw [HCW.out, ← HN.out]; omega), rfl⟩

end Go.Proofs.Ytjkpdhcnklgfbaa
