/-
  Contracts of the reference's most and size.
  Conditions: the mode is one of the three, the class 0 to 2; numbers are small.
-/
import Derived.Test.YthebfpolijajgaaModeD
namespace Go.Proofs.Ythebfpolijajgaa
open Go.RowKit Go.Bs Go.Mode

theorem ctRes_ok (m : Int) (k : Nat) (hm : okMode m = true) (hk : k ≤ 2) : ctRes m k = ((cntB m k : Int), 0) := by
  unfold ctRes
  rw [if_neg (by rw [hm]; simp; omega)]
  rfl
theorem cntB_bd (m : Int) (k : Nat) (hk : k ≤ 2) : 8 ≤ cntB m k ∧ cntB m k ≤ 16 := by
  unfold cntB
  split
  · omega
  · split
    · omega
    · split <;> omega

set_option maxRecDepth 20000 in
set_option maxHeartbeats 800000 in
theorem most_any (m : Int) (k : Nat) (w : World) (hm : okMode m = true) (hk : k ≤ 2) : Calls Try.prog 51 #[.int .i64 m, .int .i64 k] w fun e w' => e = .returned (.int .i64 ((2 ^ cntB m k - 1 : Nat) : Int)) ∧ w = w' := by
  have HC := Lib.hid (ctRes_ok m k hm hk)
  have hb := cntB_bd m k hk
  have hp : ∀ b : Nat, 8 ≤ b → b ≤ 16 → wrap64 (2 ^ b) = ((2 ^ b : Nat) : Int) ∧ 2 ^ b ≤ 65536 ∧ 1 ≤ 2 ^ b := by
    intro b h1 h2
    have h3 : 2 ^ b ≤ 2 ^ 16 := Nat.pow_le_pow_right (by decide) h2
    refine ⟨?_, h3, Nat.pos_of_ne_zero (by simp)⟩
    have e : (2 : Int) ^ b = ((2 ^ b : Nat) : Int) := by rw [Int.natCast_pow]; rfl
    rw [e]
    generalize 2 ^ b = p at h3 ⊢
    exact IntWalk.wrap64_in _ ⟨by omega, by omega⟩
  obtain ⟨hw, h65, h1⟩ := hp (cntB m k) hb.1 hb.2
  obtain ⟨b, hbb⟩ : ∃ b, b = cntB m k := ⟨_, rfl⟩
  rw [← hbb] at HC hb hw h65 h1 ⊢
  clear hbb hp
  obtain ⟨p, hp⟩ : ∃ p, p = 2 ^ b := ⟨_, rfl⟩
  rw [← hp] at hw h65 h1 ⊢
  have HW := Lib.hid hw
  clear hp hw
  go_enter Try.func51, Try.ntmps51
  go_wp2_with fail
  refine (rcountBits_any _ _ _).mono ?_
  rw [HC.out]
  rintro e w' ⟨rfl, rfl⟩
  simp only [two]
  go_wp2_with fail
  go_ret
  refine ⟨?_, rfl⟩
  have e : wrap64 (wrap64 (2 ^ b) - 1) = ((p - 1 : Nat) : Int) := by
    rw [HW.out]
    have e2 : (p : Int) - 1 = ((p - 1 : Nat) : Int) := by omega
    rw [e2]
    exact IntWalk.wrap64_in _ ⟨by omega, by omega⟩
  rw [e]
  rfl

set_option maxRecDepth 20000 in
set_option maxHeartbeats 800000 in
theorem rsegsize_any (m : Int) (k n : Nat) (w : World) (hm : okMode m = true) (hk : k ≤ 2) (hn : n ≤ 1099511627776) : Calls Try.prog 52 #[.int .i64 m, .int .i64 k, .int .i64 n] w fun e w' => e = .returned (.int .i64 (segB m k n)) ∧ w = w' := by
  have HC := Lib.hid (ctRes_ok m k hm hk)
  have hb := cntB_bd m k hk
  have hd : dsize m n ≤ 11 * n + 7 := by unfold dsize; split <;> (try split) <;> (try split) <;> (try split) <;> omega
  have HS : Hid ((segB m k n : Int) = 4 + (cntB m k : Int) + (dsize m n : Int)) := by show _ = _; unfold segB; omega
  go_enter Try.func52, Try.ntmps52
  go_wp2_with fail
  refine (rcountBits_any _ _ _).mono ?_
  rw [HC.out]
  rintro e w' ⟨rfl, rfl⟩
  simp only [two]
  go_wp2_with fail
  refine (rdata_any m n _ hm hn).mono ?_
  rintro e w' ⟨rfl, rfl⟩
  go_wp2_with fail
  go_ret
  exact ⟨ret_int (by rw [HS.out]), rfl⟩

end Go.Proofs.Ythebfpolijajgaa
