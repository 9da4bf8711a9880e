/-
  Contracts of the reference's place, Fits, Data, most, size.
  Conditions: the mode is one of the three; numbers are small.
-/
import Derived.Test.YthebfpolijajgaaModeC
namespace Go.Proofs.Ythebfpolijajgaa
open Go.RowKit Go.Bs Go.Mode

set_option maxRecDepth 20000 in
set_option maxHeartbeats 800000 in
theorem place_any (c : UInt8) (w : World) : Calls Try.prog 70 #[.int .u8 c.toNat] w fun e w' => e = .returned (.int .i64 (placeI c)) ∧ w = w' := by
  have hl := length_alnum
  go_enter Try.func70, Try.ntmps70
  go_wp2_with fail
  go_loop [3] (fun i => ∃ k : Nat, k ≤ 45 ∧ i = .int .i64 k ∧ Hid (∀ j (h : j < k) (h' : j < alnum.length), alnum[j] ≠ c)) (fun i => 45 - (intOf i).toNat)
  case atStart => exact ⟨0, by omega, rfl, Lib.hid (fun j h _ => absurd h (by omega))⟩
  case round =>
    obtain ⟨k, hk, rfl, HK⟩ := hrel
    by_cases hlt : k < 45
    · go_wp2_with fail
      · rename_i _ he _
        have hq : alnum[k]'(by omega) = c := by
          rw [alnum_at k hlt _ (by decide), beq_iff_eq] at he
          exact UInt8.toNat_inj.1 (by omega)
        have HP : Hid (placeI c = (k : Int)) := index_some c alnum k (by omega) hq (fun i hi => HK.out i hi (by omega))
        clear he hq
        go_ret
        exact ⟨by rw [HP.out]; rfl, rfl⟩
      · rename_i _ he
        have hq : alnum[k]'(by omega) ≠ c := by
          rw [alnum_at k hlt _ (by decide), beq_eq_false_iff_ne] at he
          intro e
          rw [e] at he
          exact he rfl
        have HK2 : Hid (∀ j (h : j < k + 1) (h' : j < alnum.length), alnum[j] ≠ c) := by
          intro j h h'
          by_cases e : j = k
          · subst e; exact hq
          · exact HK.out j (by omega) h'
        clear he hq
        go_round
        case rel => exact ⟨k + 1, by omega, int_eq (by omega), HK2⟩
        case measure => simp [intOf]; omega
    · obtain rfl : k = 45 := by omega
      have HP : Hid (placeI c = -1) := index_none c alnum (fun i hi => HK.out i (by omega) hi)
      go_wp2_with fail
      go_ret
      exact ⟨by rw [HP.out]; rfl, rfl⟩

set_option maxRecDepth 20000 in
set_option maxHeartbeats 800000 in
theorem rfits_any (m : Int) (c : UInt8) (w : World) : Calls Try.prog 39 #[.int .i64 m, .int .u8 c.toNat] w fun e w' => e = .returned (.bool (fitsB m c)) ∧ w = w' := by
  rcases okMode_cases m with rfl | rfl | rfl | ⟨h, h1, h2, h4⟩
  · have HF : Hid (fitsB 1 c = (decide (48 ≤ c.toNat) && decide (c.toNat ≤ 57))) := rfl
    by_cases ha : 48 ≤ c.toNat
    · by_cases hb : c.toNat ≤ 57
      · have HF2 : Hid (fitsB 1 c = true) := by show _ = _; rw [HF.out]; simp [ha, hb]
        rw [HF2.out]
        have hd : decide ((c.toNat : Int) ≤ 57) = true := by simp; omega
        go_enter Try.func39, Try.ntmps39
        go_wp2_with fail
        go_ret
        exact ⟨rfl, rfl⟩
      · have HF2 : Hid (fitsB 1 c = false) := by show _ = _; rw [HF.out]; simp [hb]
        rw [HF2.out]
        have hd : decide ((c.toNat : Int) ≤ 57) = false := by simp; omega
        go_enter Try.func39, Try.ntmps39
        go_wp2_with fail
        go_ret
        exact ⟨rfl, rfl⟩
    · have HF2 : Hid (fitsB 1 c = false) := by show _ = _; rw [HF.out]; simp [ha]
      rw [HF2.out]
      have hd : decide ((48 : Int) ≤ (c.toNat : Int)) = false := by simp; omega
      go_enter Try.func39, Try.ntmps39
      go_wp2_with fail
      go_ret
      exact ⟨rfl, rfl⟩
  · rw [show fitsB 2 c = decide (0 ≤ placeI c) from rfl]
    go_enter Try.func39, Try.ntmps39
    go_wp2_with fail
    refine (place_any c _).mono ?_
    rintro e w' ⟨rfl, rfl⟩
    go_wp2_with fail
    go_ret
    exact ⟨rfl, rfl⟩
  · rw [show fitsB 4 c = true from rfl]
    go_enter Try.func39, Try.ntmps39
    go_wp2_with fail
    go_ret
    exact ⟨rfl, rfl⟩
  · have n1 : m ≠ 1 := by simpa using h1
    have n2 : m ≠ 2 := by simpa using h2
    rw [show fitsB m c = false from by unfold fitsB; rw [if_neg n1, if_neg n2, h4]]
    clear n1 n2 h
    go_enter Try.func39, Try.ntmps39
    go_wp2_with fail
    go_ret
    exact ⟨rfl, rfl⟩

set_option maxRecDepth 20000 in
set_option maxHeartbeats 800000 in
theorem rdata_any (m : Int) (n : Nat) (w : World) (hm : okMode m = true) (hn : n ≤ 1099511627776) : Calls Try.prog 76 #[.int .i64 m, .int .i64 n] w fun e w' => e = .returned (.int .i64 (dsize m n)) ∧ w = w' := by
  rcases okMode_cases m with rfl | rfl | rfl | ⟨h, _⟩
  case inr.inr.inr => rw [hm] at h; cases h
  all_goals
    clear hm
    go_enter Try.func76, Try.ntmps76
    go_wp2_with fail
    go_ret
    refine ⟨ret_int ?_, rfl⟩
    unfold dsize
    simp
    try (split <;> (try split) <;> omega)
    try omega

end Go.Proofs.Ythebfpolijajgaa
