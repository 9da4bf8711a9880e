/-
  The walk of the reference's purpose: modules in the middle, at the column 8 or the row 6.
  Conditions: a layout's slice holds its alignment coordinates; small numbers; the module lies outside the finder patterns.
-/
import Derived.Test.YtjkpdhcnklgfbaaRPurC
namespace Go.Proofs.Ytjkpdhcnklgfbaa
open Go.RowKit Go.Bs Go.Qrv Go.Lay


set_option maxRecDepth 20000 in
set_option maxHeartbeats 4000000 in
theorem rpurpose_3 (v s x y : Int) (ao : Option Addr) (n cap : Nat) (A B C : Int) (w : World) (l : List Int) (hr : Row w ao (ints l)) (hs : 21 ≤ s ∧ s ≤ 1000) (hx : 0 ≤ x ∧ x ≤ 1000) (hy : 0 ≤ y ∧ y ≤ 1000) (hV : 45 ≤ s ↔ 7 ≤ v) (f1 : 8 ≤ x) (f2 : x < s - 8)
    (HAL : ∀ W, Row W ao (ints l) → Hid (Calls Try.prog 71 #[.slice ao n cap, .int .i64 s, .int .i64 x, .int .i64 y] W fun e w' => e = .returned (.tuple #[.int .i64 A, .int .i64 B, .bool false]) ∧ Ext W w'))
    (HQ : Hid (PurQ v s x y C)) :
    Calls Try.prog 57 #[.slice ao n cap, .int .i64 s, .int .i64 x, .int .i64 y] w fun e w' => e = .returned (.int .i64 C) ∧ Ext w w' := by
  by_cases hfar : 8 < x ∧ y ≠ 6
  · exact rpurpose_4 v s x y ao n cap A B C w l hr hs hx hy hV hfar.1 f2 hfar.2 HAL HQ
  have HR := Lib.hid hr
  clear hr
  go_enter Try.func57, Try.ntmps57
  go_wp2_with fail
  refine (HAL _ HR.out).out.mono ?_
  rintro e w1 ⟨rfl, hx1⟩
  have HX1 := Lib.hid hx1
  clear hx1 HAL HR
  rcases (show (y = 6) ∨ (x = 8 ∧ y = s - 8) ∨ (x = 8 ∧ y = 8) ∨ (x = 8 ∧ y < 8 ∧ y ≠ 6) ∨ (x = 8 ∧ s - 7 ≤ y) ∨ (x = 8 ∧ 8 < y ∧ y < s - 8 ∧ v < 7) ∨ (x = 8 ∧ 8 < y ∧ y < s - 11 ∧ 7 ≤ v) ∨ (x = 8 ∧ 8 < y ∧ y < s - 8 ∧ s - 11 ≤ y ∧ 7 ≤ v) from by omega) with c1 | ⟨c1, c2⟩ | ⟨c1, c2⟩ | ⟨c1, c2, c3⟩ | ⟨c1, c2⟩ | ⟨c1, c2, c3, c4⟩ | ⟨c1, c2, c3, c4⟩ | ⟨c1, c2, c3, c4, c5⟩
  · skip
    have hC : C = 3 := HQ.out _ (by (repeat' split) <;> first | rfl | omega)
    clear HQ
    try (have g1 : s < 45 := by omega)
    try (have g2 : 45 ≤ s := by omega)
    clear hV
    try (have d6 : (x == 6) = false := by simp; omega)
    try (have e6 : (y == 6) = false := by simp; omega)
    try (have d8 : (x == 8) = false := by simp; omega)
    try (have e8 : (y == 8) = false := by simp; omega)
    try (have es8 : (y == s - 8) = false := by simp; omega)
    go_wp2_with fail
    go_ret
    exact ⟨by first | rfl | (rw [hC]; rfl), HX1.out⟩
  · skip
    have hC : C = 7 := HQ.out _ (by (repeat' split) <;> first | rfl | omega)
    clear HQ
    try (have g1 : s < 45 := by omega)
    try (have g2 : 45 ≤ s := by omega)
    clear hV
    try (have d6 : (x == 6) = false := by simp; omega)
    try (have e6 : (y == 6) = false := by simp; omega)
    try (have d8 : (x == 8) = false := by simp; omega)
    try (have e8 : (y == 8) = false := by simp; omega)
    try (have es8 : (y == s - 8) = false := by simp; omega)
    go_wp2_with fail
    go_ret
    exact ⟨by first | rfl | (rw [hC]; rfl), HX1.out⟩
  · skip
    have hC : C = 5 := HQ.out _ (by (repeat' split) <;> first | rfl | omega)
    clear HQ
    try (have g1 : s < 45 := by omega)
    try (have g2 : 45 ≤ s := by omega)
    clear hV
    try (have d6 : (x == 6) = false := by simp; omega)
    try (have e6 : (y == 6) = false := by simp; omega)
    try (have d8 : (x == 8) = false := by simp; omega)
    try (have e8 : (y == 8) = false := by simp; omega)
    try (have es8 : (y == s - 8) = false := by simp; omega)
    go_wp2_with fail
    go_ret
    exact ⟨by first | rfl | (rw [hC]; rfl), HX1.out⟩
  · skip
    have hC : C = 5 := HQ.out _ (by (repeat' split) <;> first | rfl | omega)
    clear HQ
    try (have g1 : s < 45 := by omega)
    try (have g2 : 45 ≤ s := by omega)
    clear hV
    try (have d6 : (x == 6) = false := by simp; omega)
    try (have e6 : (y == 6) = false := by simp; omega)
    try (have d8 : (x == 8) = false := by simp; omega)
    try (have e8 : (y == 8) = false := by simp; omega)
    try (have es8 : (y == s - 8) = false := by simp; omega)
    go_wp2_with fail
    go_ret
    exact ⟨by first | rfl | (rw [hC]; rfl), HX1.out⟩
  · skip
    have hC : C = 5 := HQ.out _ (by (repeat' split) <;> first | rfl | omega)
    clear HQ
    try (have g1 : s < 45 := by omega)
    try (have g2 : 45 ≤ s := by omega)
    clear hV
    try (have d6 : (x == 6) = false := by simp; omega)
    try (have e6 : (y == 6) = false := by simp; omega)
    try (have d8 : (x == 8) = false := by simp; omega)
    try (have e8 : (y == 8) = false := by simp; omega)
    try (have es8 : (y == s - 8) = false := by simp; omega)
    go_wp2_with fail
    go_ret
    exact ⟨by first | rfl | (rw [hC]; rfl), HX1.out⟩
  · skip
    have hC : C = 1 := HQ.out _ (by (repeat' split) <;> first | rfl | omega)
    clear HQ
    try (have g1 : s < 45 := by omega)
    try (have g2 : 45 ≤ s := by omega)
    clear hV
    try (have d6 : (x == 6) = false := by simp; omega)
    try (have e6 : (y == 6) = false := by simp; omega)
    try (have d8 : (x == 8) = false := by simp; omega)
    try (have e8 : (y == 8) = false := by simp; omega)
    try (have es8 : (y == s - 8) = false := by simp; omega)
    go_wp2_with fail
    go_ret
    exact ⟨by first | rfl | (rw [hC]; rfl), HX1.out⟩
  · skip
    have hC : C = 1 := HQ.out _ (by (repeat' split) <;> first | rfl | omega)
    clear HQ
    try (have g1 : s < 45 := by omega)
    try (have g2 : 45 ≤ s := by omega)
    clear hV
    try (have d6 : (x == 6) = false := by simp; omega)
    try (have e6 : (y == 6) = false := by simp; omega)
    try (have d8 : (x == 8) = false := by simp; omega)
    try (have e8 : (y == 8) = false := by simp; omega)
    try (have es8 : (y == s - 8) = false := by simp; omega)
    go_wp2_with fail
    go_ret
    exact ⟨by first | rfl | (rw [hC]; rfl), HX1.out⟩
  · skip
    have hC : C = 1 := HQ.out _ (by (repeat' split) <;> first | rfl | omega)
    clear HQ
    try (have g1 : s < 45 := by omega)
    try (have g2 : 45 ≤ s := by omega)
    clear hV
    try (have d6 : (x == 6) = false := by simp; omega)
    try (have e6 : (y == 6) = false := by simp; omega)
    try (have d8 : (x == 8) = false := by simp; omega)
    try (have e8 : (y == 8) = false := by simp; omega)
    try (have es8 : (y == s - 8) = false := by simp; omega)
    go_wp2_with fail
    go_ret
    exact ⟨by first | rfl | (rw [hC]; rfl), HX1.out⟩

end Go.Proofs.Ytjkpdhcnklgfbaa
