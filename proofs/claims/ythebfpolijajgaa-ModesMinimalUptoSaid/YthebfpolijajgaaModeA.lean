/-
  Contracts of modes.known, Class, CountBits, and of their references.
  Conditions: none for the last of each.
-/
import Derived.Test.YthebfpolijajgaaRows
import Derived.Test.YthebfpolijajgaaRet
import Derived.Test.YthebfpolijajgaaInfo
import Derived.Test.YthebfpolijajgaaTab
import Derived.Test.YthebfpolijajgaaModePlain
namespace Go.Proofs.Ythebfpolijajgaa
open Go.RowKit Go.Bs Go.Mode

theorem okMode_cases (m : Int) : m = 1 ∨ m = 2 ∨ m = 4 ∨ (okMode m = false ∧ (m == 1) = false ∧ (m == 2) = false ∧ (m == 4) = false) := by
  by_cases h1 : m = 1
  · exact Or.inl h1
  · by_cases h2 : m = 2
    · exact Or.inr (Or.inl h2)
    · by_cases h4 : m = 4
      · exact Or.inr (Or.inr (Or.inl h4))
      · exact Or.inr (Or.inr (Or.inr ⟨by simp [okMode, h1, h2, h4], by simp [h1], by simp [h2], by simp [h4]⟩))

set_option maxHeartbeats 400000 in
theorem known_any (m : Int) (w : World) : Calls Try.prog 47 #[.int .i64 m] w fun e w' => e = .returned (.bool (okMode m)) ∧ w = w' := by
  rcases okMode_cases m with rfl | rfl | rfl | ⟨h, h1, h2, h4⟩
  case inr.inr.inr => rw [h]; clear h; go_enter Try.func47, Try.ntmps47; go_wp2_with fail; go_ret; exact ⟨rfl, rfl⟩
  all_goals
    go_enter Try.func47, Try.ntmps47
    go_wp2_with fail
    go_ret
    exact ⟨rfl, rfl⟩
set_option maxHeartbeats 400000 in
theorem rknown_any (m : Int) (w : World) : Calls Try.prog 50 #[.int .i64 m] w fun e w' => e = .returned (.bool (okMode m)) ∧ w = w' := by
  rcases okMode_cases m with rfl | rfl | rfl | ⟨h, h1, h2, h4⟩
  case inr.inr.inr => rw [h]; clear h; go_enter Try.func50, Try.ntmps50; go_wp2_with fail; go_ret; exact ⟨rfl, rfl⟩
  all_goals
    go_enter Try.func50, Try.ntmps50
    go_wp2_with fail
    go_ret
    exact ⟨rfl, rfl⟩

def clRes (v : Int) : Int × Int := if v < 1 ∨ 40 < v then (0, 14) else if v ≤ 9 then (0, 0) else if v ≤ 26 then (1, 0) else (2, 0)
set_option maxHeartbeats 400000 in
theorem class_any (v : Int) (w : World) : Calls Try.prog 35 #[.int .i64 v] w fun e w' => e = .returned (two (clRes v)) ∧ w = w' := by
  have hc : v < 1 ∨ (1 ≤ v ∧ 40 < v) ∨ (1 ≤ v ∧ v ≤ 9) ∨ (10 ≤ v ∧ v ≤ 26) ∨ (27 ≤ v ∧ v ≤ 40) := by omega
  rcases hc with h | ⟨h, h'⟩ | ⟨h, h'⟩ | ⟨h, h'⟩ | ⟨h, h'⟩
  · rw [show clRes v = (0, 14) from by unfold clRes; rw [if_pos (by omega)]]
    go_enter Try.func35, Try.ntmps35
    go_wp2_with fail
    go_ret2
    exact ⟨rfl, rfl⟩
  · rw [show clRes v = (0, 14) from by unfold clRes; rw [if_pos (by omega)]]
    have hd : decide (v ≤ 9) = false := by simp; omega
    go_enter Try.func35, Try.ntmps35
    go_wp2_with fail
    go_ret2
    exact ⟨rfl, rfl⟩
  · rw [show clRes v = (0, 0) from by unfold clRes; rw [if_neg (by omega), if_pos (by omega)]]
    have h40 : v ≤ 40 := by omega
    go_enter Try.func35, Try.ntmps35
    go_wp2_with fail
    go_ret2
    exact ⟨rfl, rfl⟩
  · rw [show clRes v = (1, 0) from by unfold clRes; rw [if_neg (by omega), if_neg (by omega), if_pos (by omega)]]
    have h40 : v ≤ 40 := by omega
    have h1 : 1 ≤ v := by omega
    have h9 : ¬ v ≤ 9 := by omega
    have hd : decide (v ≤ 9) = false := by simp; omega
    go_enter Try.func35, Try.ntmps35
    go_wp2_with fail
    go_ret2
    exact ⟨rfl, rfl⟩
  · rw [show clRes v = (2, 0) from by unfold clRes; rw [if_neg (by omega), if_neg (by omega), if_neg (by omega)]]
    have h1 : 1 ≤ v := by omega
    have h9 : ¬ v ≤ 9 := by omega
    have h26 : ¬ v ≤ 26 := by omega
    have hd : decide (v ≤ 9) = false := by simp; omega
    have hd' : decide (v ≤ 26) = false := by simp; omega
    go_enter Try.func35, Try.ntmps35
    go_wp2_with fail
    go_ret2
    exact ⟨rfl, rfl⟩
set_option maxHeartbeats 400000 in
theorem rclass_any (v : Int) (w : World) : Calls Try.prog 36 #[.int .i64 v] w fun e w' => e = .returned (two (clRes v)) ∧ w = w' := by
  have hc : v < 1 ∨ (1 ≤ v ∧ 40 < v) ∨ (1 ≤ v ∧ v ≤ 9) ∨ (10 ≤ v ∧ v ≤ 26) ∨ (27 ≤ v ∧ v ≤ 40) := by omega
  rcases hc with h | ⟨h, h'⟩ | ⟨h, h'⟩ | ⟨h, h'⟩ | ⟨h, h'⟩
  · rw [show clRes v = (0, 14) from by unfold clRes; rw [if_pos (by omega)]]
    go_enter Try.func36, Try.ntmps36
    go_wp2_with fail
    go_ret2
    exact ⟨rfl, rfl⟩
  · rw [show clRes v = (0, 14) from by unfold clRes; rw [if_pos (by omega)]]
    have hd : decide (v ≤ 9) = false := by simp; omega
    go_enter Try.func36, Try.ntmps36
    go_wp2_with fail
    go_ret2
    exact ⟨rfl, rfl⟩
  · rw [show clRes v = (0, 0) from by unfold clRes; rw [if_neg (by omega), if_pos (by omega)]]
    have h40 : v ≤ 40 := by omega
    go_enter Try.func36, Try.ntmps36
    go_wp2_with fail
    go_ret2
    exact ⟨rfl, rfl⟩
  · rw [show clRes v = (1, 0) from by unfold clRes; rw [if_neg (by omega), if_neg (by omega), if_pos (by omega)]]
    have h40 : v ≤ 40 := by omega
    have h1 : 1 ≤ v := by omega
    have h9 : ¬ v ≤ 9 := by omega
    have hd : decide (v ≤ 9) = false := by simp; omega
    go_enter Try.func36, Try.ntmps36
    go_wp2_with fail
    go_ret2
    exact ⟨rfl, rfl⟩
  · rw [show clRes v = (2, 0) from by unfold clRes; rw [if_neg (by omega), if_neg (by omega), if_neg (by omega)]]
    have h1 : 1 ≤ v := by omega
    have h9 : ¬ v ≤ 9 := by omega
    have h26 : ¬ v ≤ 26 := by omega
    have hd : decide (v ≤ 9) = false := by simp; omega
    have hd' : decide (v ≤ 26) = false := by simp; omega
    go_enter Try.func36, Try.ntmps36
    go_wp2_with fail
    go_ret2
    exact ⟨rfl, rfl⟩

def ctRes (m c : Int) : Int × Int := if okMode m = false ∨ c < 0 ∨ 2 < c then (0, 1) else (cntB m c.toNat, 0)

theorem class_cases (c : Int) : c < 0 ∨ (0 ≤ c ∧ 2 < c) ∨ c = 0 ∨ c = 1 ∨ c = 2 := by omega

set_option maxRecDepth 20000 in
set_option maxHeartbeats 800000 in
theorem countBits_any (m c : Int) (w : World) : Calls Try.prog 37 #[.int .i64 m, .int .i64 c] w fun e w' => e = .returned (two (ctRes m c)) ∧ w = w' := by
  rcases okMode_cases m with hm | hm | hm | ⟨h, h1, h2, h4⟩
  case inr.inr.inr =>
    rw [show ctRes m c = (0, 1) from by unfold ctRes; rw [if_pos (Or.inl h)]]
    have H := Lib.hid h
    clear h
    go_enter Try.func37, Try.ntmps37
    go_wp2_with fail
    refine (known_any _ _).mono ?_
    rw [H.out]
    rintro e w' ⟨rfl, rfl⟩
    go_wp2_with fail
    go_ret2
    exact ⟨rfl, rfl⟩
  all_goals
    subst hm
    rcases class_cases c with hc | ⟨hc, hc'⟩ | hc | hc | hc
    case inl =>
      rw [show ctRes _ c = (0, 1) from by unfold ctRes; rw [if_pos (Or.inr (Or.inl hc))]]
      go_enter Try.func37, Try.ntmps37
      go_wp2_with fail
      refine (known_any _ _).mono ?_
      rintro e w' ⟨rfl, rfl⟩
      simp only [okMode]
      go_wp2_with fail
      go_ret2
      exact ⟨rfl, rfl⟩
    case inr.inl =>
      rw [show ctRes _ c = (0, 1) from by unfold ctRes; rw [if_pos (Or.inr (Or.inr hc'))]]
      go_enter Try.func37, Try.ntmps37
      go_wp2_with fail
      refine (known_any _ _).mono ?_
      rintro e w' ⟨rfl, rfl⟩
      simp only [okMode]
      go_wp2_with fail
      go_ret2
      exact ⟨rfl, rfl⟩
    all_goals
      subst hc
      go_enter Try.func37, Try.ntmps37
      go_wp2_with fail
      refine (known_any _ _).mono ?_
      rintro e w' ⟨rfl, rfl⟩
      simp only [okMode]
      go_wp2_with (first | (refine wpList_indexAgg rfl 74 _ _ rfl 3 3 Try.underlying74 .i64 Try.underlying3 (by kernel_rfl) _ rfl .i64 0 rfl (by decide) _ rfl ?_) | (refine wpList_indexAgg rfl 74 _ _ rfl 3 3 Try.underlying74 .i64 Try.underlying3 (by kernel_rfl) _ rfl .i64 1 rfl (by decide) _ rfl ?_) | (refine wpList_indexAgg rfl 74 _ _ rfl 3 3 Try.underlying74 .i64 Try.underlying3 (by kernel_rfl) _ rfl .i64 2 rfl (by decide) _ rfl ?_))
      go_ret2
      exact ⟨rfl, rfl⟩
set_option maxRecDepth 20000 in
set_option maxHeartbeats 800000 in
theorem rcountBits_any (m c : Int) (w : World) : Calls Try.prog 21 #[.int .i64 m, .int .i64 c] w fun e w' => e = .returned (two (ctRes m c)) ∧ w = w' := by
  rcases okMode_cases m with hm | hm | hm | ⟨h, h1, h2, h4⟩
  case inr.inr.inr =>
    rw [show ctRes m c = (0, 1) from by unfold ctRes; rw [if_pos (Or.inl h)]]
    have H := Lib.hid h
    clear h
    go_enter Try.func21, Try.ntmps21
    go_wp2_with fail
    refine (rknown_any _ _).mono ?_
    rw [H.out]
    rintro e w' ⟨rfl, rfl⟩
    go_wp2_with fail
    go_ret2
    exact ⟨rfl, rfl⟩
  all_goals
    subst hm
    rcases class_cases c with hc | ⟨hc, hc'⟩ | hc | hc | hc
    case inl =>
      rw [show ctRes _ c = (0, 1) from by unfold ctRes; rw [if_pos (Or.inr (Or.inl hc))]]
      go_enter Try.func21, Try.ntmps21
      go_wp2_with fail
      refine (rknown_any _ _).mono ?_
      rintro e w' ⟨rfl, rfl⟩
      simp only [okMode]
      go_wp2_with fail
      go_ret2
      exact ⟨rfl, rfl⟩
    case inr.inl =>
      rw [show ctRes _ c = (0, 1) from by unfold ctRes; rw [if_pos (Or.inr (Or.inr hc'))]]
      go_enter Try.func21, Try.ntmps21
      go_wp2_with fail
      refine (rknown_any _ _).mono ?_
      rintro e w' ⟨rfl, rfl⟩
      simp only [okMode]
      go_wp2_with fail
      go_ret2
      exact ⟨rfl, rfl⟩
    all_goals
      subst hc
      go_enter Try.func21, Try.ntmps21
      go_wp2_with fail
      refine (rknown_any _ _).mono ?_
      rintro e w' ⟨rfl, rfl⟩
      simp only [okMode]
      go_wp2_with fail
      go_ret2
      exact ⟨rfl, rfl⟩

end Go.Proofs.Ythebfpolijajgaa
