/-
  Contracts of modes.Fits, value, and of the reference's place and Fits.
  Conditions: a byte is a byte.
-/
import Derived.Test.YthebfpolijajgaaModeA
import Derived.Test.YthebfpolijajgaaShelf
namespace Go.Proofs.Ythebfpolijajgaa
open Go.RowKit Go.Bs Go.Mode

theorem alnum_data (B : ByteArray) (h : B.data.toList = alnum) (c : UInt8) : Lib.indexByte B.data.toList ((c.toNat : Int).toNat.toUInt8) = placeI c := by
  rw [h, Int.toNat_natCast]
  unfold placeI
  congr 1
  simp

set_option maxRecDepth 20000 in
set_option maxHeartbeats 800000 in
theorem fits_any (m : Int) (c : UInt8) (w : World) : Calls Try.prog 38 #[.int .i64 m, .int .u8 c.toNat] w fun e w' => e = .returned (.bool (fitsB m c)) ∧ w = w' := by
  rcases okMode_cases m with rfl | rfl | rfl | ⟨h, h1, h2, h4⟩
  · have HF : Hid (fitsB 1 c = (decide (48 ≤ c.toNat) && decide (c.toNat ≤ 57))) := rfl
    by_cases ha : 48 ≤ c.toNat
    · by_cases hb : c.toNat ≤ 57
      · have HF2 : Hid (fitsB 1 c = true) := by show _ = _; rw [HF.out]; simp [ha, hb]
        rw [HF2.out]
        have hd : decide ((c.toNat : Int) ≤ 57) = true := by simp; omega
        go_enter Try.func38, Try.ntmps38
        go_wp2_with fail
        go_ret
        exact ⟨rfl, rfl⟩
      · have HF2 : Hid (fitsB 1 c = false) := by show _ = _; rw [HF.out]; simp [hb]
        rw [HF2.out]
        have hd : decide ((c.toNat : Int) ≤ 57) = false := by simp; omega
        go_enter Try.func38, Try.ntmps38
        go_wp2_with fail
        go_ret
        exact ⟨rfl, rfl⟩
    · have HF2 : Hid (fitsB 1 c = false) := by show _ = _; rw [HF.out]; simp [ha]
      rw [HF2.out]
      have hd : decide ((48 : Int) ≤ (c.toNat : Int)) = false := by simp; omega
      go_enter Try.func38, Try.ntmps38
      go_wp2_with fail
      go_ret
      exact ⟨rfl, rfl⟩
  · rw [show fitsB 2 c = decide (0 ≤ placeI c) from rfl]
    go_enter Try.func38, Try.ntmps38
    go_wp2_with fail
    (refine (Try.strings_IndexByte _ _ _).mono ?_; rw [alnum_data _ (by decide) c])
    rintro e w' ⟨rfl, rfl⟩
    go_wp2_with fail
    go_ret
    exact ⟨rfl, rfl⟩
  · rw [show fitsB 4 c = true from rfl]
    go_enter Try.func38, Try.ntmps38
    go_wp2_with fail
    go_ret
    exact ⟨rfl, rfl⟩
  · have n1 : m ≠ 1 := by simpa using h1
    have n2 : m ≠ 2 := by simpa using h2
    rw [show fitsB m c = false from by unfold fitsB; rw [if_neg n1, if_neg n2, h4]]
    clear n1 n2 h
    go_enter Try.func38, Try.ntmps38
    go_wp2_with fail
    go_ret
    exact ⟨rfl, rfl⟩

theorem alnum_at (k : Nat) (h : k < 45) (B : ByteArray) (hB : B.data.toList = alnum) (hs : k < B.size) : B[k] = alnum[k]'(by rw [length_alnum]; exact h) := by
  have : B.data.toList[k]'(by simpa using hs) = alnum[k]'(by rw [length_alnum]; exact h) := by simp [hB]
  exact this

set_option maxRecDepth 20000 in
set_option maxHeartbeats 800000 in
theorem value_any (m : Int) (c : UInt8) (w : World) (hm : okMode m = true) : Calls Try.prog 66 #[.int .i64 m, .int .u8 c.toNat] w fun e w' => e = .returned (.int .i64 (valueI m c)) ∧ w = w' := by
  have hb : c.toNat < 256 := c.toNat_lt
  rcases okMode_cases m with rfl | rfl | rfl | ⟨h, _⟩
  case inr.inr.inr => rw [hm] at h; cases h
  case inr.inr.inl =>
    rw [show valueI 4 c = (c.toNat : Int) from rfl]
    go_enter Try.func66, Try.ntmps66
    go_wp2_with fail
    go_ret
    exact ⟨ret_int (by first | rfl | (exact IntWalk.wrap64_in _ ⟨by omega, by omega⟩)), rfl⟩
  all_goals
    rw [show valueI _ c = placeI c from rfl]
    go_enter Try.func66, Try.ntmps66
    go_wp2_with fail
    refine (Try.strings_IndexByte _ _ _).mono ?_
    rw [alnum_data _ (by decide) c]
    rintro e w' ⟨rfl, rfl⟩
    go_wp2_with fail
    go_ret
    exact ⟨rfl, rfl⟩

end Go.Proofs.Ythebfpolijajgaa
