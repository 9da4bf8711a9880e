/-
  Contracts of the functions of bch and barscanref08 that reckon with polynomials.
  Conditions: the numbers are small (they stand in each contract).
-/
import Derived.Test.YtddlklnmmnohhaaRows
import Derived.Test.YtddlklnmmnohhaaLib
import Derived.Test.YtddlklnmmnohhaaNum
import Derived.Test.YtddlklnmmnohhaaBchPlain
import Derived.Test.YtddlklnmmnohhaaShelf
namespace Go.Proofs.Ytddlklnmmnohhaa
open Go.RowKit Go.Bs Go.Bch

theorem bitLenAux_eq : ∀ (f x : Nat), x < 2 ^ f → Lib.bitLenAux f x = if x = 0 then 0 else x.log2 + 1
  | 0, x, h => by have : x = 0 := by simpa using h
                  subst this; rfl
  | f + 1, x, h => by
    unfold Lib.bitLenAux
    by_cases h0 : x = 0
    · rw [if_pos h0, if_pos h0]
    · rw [if_neg h0, if_neg h0, bitLenAux_eq f (x / 2) (by rw [Nat.pow_succ] at h; omega), Nat.log2_def x]
      by_cases h1 : x = 1
      · subst h1; simp
      · rw [if_neg (by omega), if_pos (by omega)]; omega
theorem bitLen_pos {x : Nat} (h0 : 0 < x) (h : x < 18446744073709551616) : Lib.bitLen x = x.log2 + 1 := by
  unfold Lib.bitLen; rw [bitLenAux_eq 64 x h, if_neg (by omega)]

set_option maxHeartbeats 400000 in
theorem degree_pos (p : Nat) (w : World) (h0 : 0 < p) (h : p < 4611686018427387904) :
    Calls Try.prog 35 #[.int .i64 p] w fun e w' => e = .returned (.int .i64 p.log2) ∧ w = w' := by
  have HB := Lib.hid (bitLen_pos h0 (by omega))
  have hl : p.log2 < 62 := (Nat.log2_lt (by omega)).2 h
  go_enter Try.func35, Try.ntmps35
  go_wp2_with fail
  refine (Try.bits_Len _ _ (by omega) (by omega)).mono ?_
  rw [Int.toNat_natCast, HB.out]
  rintro e w' ⟨rfl, rfl⟩
  go_wp2_with fail
  go_ret
  exact ⟨ret_int (by omega), rfl⟩

set_option maxHeartbeats 400000 in
theorem degree_zero (w : World) : Calls Try.prog 35 #[.int .i64 0] w fun e w' => e = .returned (.int .i64 (-1)) ∧ w = w' := by
  go_enter Try.func35, Try.ntmps35
  go_wp2_with fail
  refine (Try.bits_Len _ _ (by omega) (by omega)).mono ?_
  rw [show Lib.bitLen (0 : Int).toNat = 0 from rfl]
  rintro e w' ⟨rfl, rfl⟩
  go_wp2_with fail
  go_ret
  exact ⟨rfl, rfl⟩

set_option maxHeartbeats 400000 in
theorem codeword_any (v g : Nat) (w : World) (hv : v < 4096) (hg1 : 3 ≤ g) (hg2 : g < 524288) :
    Calls Try.prog 29 #[.int .i64 v, .int .i64 g] w fun e w' => e = .returned (.int .i64 (cw v g)) ∧ w = w' := by
  have hb := deg_bd g hg1 hg2
  have hlb := log2_bd g (by omega)
  have hrl := rem_lt g v 12 hg1 hv (by omega)
  have hsl := shl_lt v 12 g.log2 hv
  have hcw : cw v g = v <<< g.log2 ||| red g g.log2 31 (v <<< g.log2) := by unfold cw; rw [or_low _ _ _ hrl]
  obtain ⟨d, hdd⟩ : ∃ d, d = g.log2 := ⟨_, rfl⟩
  have HDD := Lib.hid hdd
  rw [← hdd] at hb hlb hrl hsl hcw
  clear hdd
  have hpd : 2 ^ (12 + d) ≤ 2 ^ 30 := pow2_le _ _ (by omega)
  have hpd' : 2 ^ (d + 1) ≤ 2 ^ 19 := pow2_le _ _ (by omega)
  obtain ⟨p, hp⟩ : ∃ p, p = v <<< d := ⟨_, rfl⟩
  obtain ⟨R, hR⟩ : ∃ R, R = red g d 31 (v <<< d) := ⟨_, rfl⟩
  rw [← hp] at hsl
  rw [← hR] at hrl
  rw [← hR, ← hp] at hcw
  have hpl : p < 1073741824 := by omega
  have hw1 : wrap64 ((v : Int) * 2 ^ d) = (p : Int) := by
    have e1 : (v : Int) * 2 ^ d = (p : Int) := by rw [hp, Nat.shiftLeft_eq, Int.natCast_mul, Int.natCast_pow]; rfl
    rw [e1]; exact IntWalk.wrap64_in _ ⟨by omega, by omega⟩
  have HCW := Lib.hid hcw
  have HR : Hid (red g d 31 p = R) := by show _ = _; rw [hp, hR]
  have HRL := Lib.hid hrl
  have HLB := Lib.hid hlb
  clear hcw hR hp hrl hlb hpd hpd' hsl
  go_enter Try.func29, Try.ntmps29
  go_wp2_with fail
  refine (degree_pos g _ (by omega) (by omega)).mono ?_
  rw [← HDD.out]
  rintro e w' ⟨rfl, rfl⟩
  go_wp2_with fail
  rw [hw1]
  clear hw1
  go_loop [6] (fun x => ∃ r : Nat, r < 1073741824 ∧ Hid (red g d 31 r = R) ∧ x = .int .i64 r) (fun x => (intOf x).toNat)
  case atStart => exact ⟨p, hpl, HR, rfl⟩
  case round =>
    obtain ⟨r, hr, HRR, rfl⟩ := hrel
    by_cases h0 : r = 0
    · subst h0
      go_wp2_with fail
      refine (degree_zero _).mono ?_
      rintro e w' ⟨rfl, rfl⟩
      go_wp2_with fail
      refine (degree_pos g _ (by omega) (by omega)).mono ?_
      rw [← HDD.out]
      rintro e w' ⟨rfl, rfl⟩
      go_wp2_with fail
      go_ret
      have hR0 : R = 0 := by rw [← HRR.out]; exact red_small g d 31 0 (Nat.pow_pos (by decide))
      refine ⟨ret_int ?_, rfl⟩
      rw [HCW.out, hR0, show (0 : Int) = ((0 : Nat) : Int) from rfl, i64_or_nat _ _ (by omega) (by decide)]
    · have hrp : 0 < r := by omega
      clear h0
      have hlb2 := log2_bd r hrp
      obtain ⟨t, htt⟩ : ∃ t, t = r.log2 := ⟨_, rfl⟩
      have HTT := Lib.hid htt
      rw [← htt] at hlb2
      clear htt
      have HLB2 := Lib.hid hlb2
      have ht30 : t < 30 := by
        rcases Nat.lt_or_ge t 30 with h | h
        · exact h
        · have := pow2_le 30 t h; omega
      clear hlb2
      by_cases htd : d ≤ t
      · obtain ⟨q, hq⟩ : ∃ q, q = g <<< (t - d) := ⟨_, rfl⟩
        have hq1 : q < 2 ^ (t + 1) := by
          have := (shl_top (j := t - d) HLB.out.1 HLB.out.2).2
          rw [show d + (t - d) + 1 = t + 1 by omega] at this
          rw [hq]; exact this
        have hq2 : q < 1073741824 := by have := pow2_le (t + 1) 30 (by omega); omega
        have hw2 : wrap64 ((g : Int) * 2 ^ (t - d)) = (q : Int) := by
          have e1 : (g : Int) * 2 ^ (t - d) = (q : Int) := by rw [hq, Nat.shiftLeft_eq, Int.natCast_mul, Int.natCast_pow]; rfl
          rw [e1]; exact IntWalk.wrap64_in _ ⟨by omega, by omega⟩
        have hx2 : bits .xor .i64 (r : Int) (q : Int) = ((r ^^^ q : Nat) : Int) := i64_xor_nat _ _ (by omega) (by omega)
        have hbit : r.testBit (d + (t - d)) = true := by
          rw [show d + (t - d) = t by omega]; exact Nat.testBit_of_two_pow_le_and_two_pow_add_one_gt HLB2.out.1 HLB2.out.2
        have hrt : r < 2 ^ (d + (t - d) + 1) := by rw [show d + (t - d) + 1 = t + 1 by omega]; exact HLB2.out.2
        have hst := sub_top HLB.out.1 HLB.out.2 hrt hbit
        rw [← hq, show d + (t - d) = t by omega] at hst
        have HRN : Hid (red g d 31 (r ^^^ q) = R) := by
          show _ = _
          rw [hq, red_top HLB.out.1 HLB.out.2 31 (t - d) r hrt hbit (by omega)]; exact HRR.out
        have hlt2 : r ^^^ q < r := Nat.lt_of_lt_of_le hst HLB2.out.1
        have htdi : (d : Int) ≤ (t : Int) := by omega
        have HW2 := Lib.hid hw2
        have HX2 := Lib.hid hx2
        clear hq hbit hrt hst hq1 hw2 hx2
        go_wp2_with fail
        refine (degree_pos r _ (by omega) (by omega)).mono ?_
        rw [← HTT.out]
        rintro e w' ⟨rfl, rfl⟩
        go_wp2_with fail
        refine (degree_pos g _ (by omega) (by omega)).mono ?_
        rw [← HDD.out]
        rintro e w' ⟨rfl, rfl⟩
        go_wp2_with fail
        refine (degree_pos r _ (by omega) (by omega)).mono ?_
        rw [← HTT.out]
        rintro e w' ⟨rfl, rfl⟩
        go_wp2_with fail
        refine (degree_pos g _ (by omega) (by omega)).mono ?_
        rw [← HDD.out]
        rintro e w' ⟨rfl, rfl⟩
        go_wp2_with fail
        go_round
        case rel => exact ⟨r ^^^ q, by omega, HRN, by rw [HW2.out, HX2.out]⟩
        case measure => rw [HW2.out, HX2.out]; simp [intOf]; omega
      · have hR0 : R = r := by
          rw [← HRR.out]
          exact red_small g d 31 r (Nat.lt_of_lt_of_le HLB2.out.2 (pow2_le _ _ (by omega)))
        have HR0 := Lib.hid hR0
        clear hR0
        go_wp2_with fail
        refine (degree_pos r _ (by omega) (by omega)).mono ?_
        rw [← HTT.out]
        rintro e w' ⟨rfl, rfl⟩
        go_wp2_with fail
        refine (degree_pos g _ (by omega) (by omega)).mono ?_
        rw [← HDD.out]
        rintro e w' ⟨rfl, rfl⟩
        go_wp2_with fail
        go_ret
        refine ⟨ret_int ?_, rfl⟩
        rw [HCW.out, HR0.out, i64_or_nat _ _ (by omega) (by omega)]

end Go.Proofs.Ytddlklnmmnohhaa
