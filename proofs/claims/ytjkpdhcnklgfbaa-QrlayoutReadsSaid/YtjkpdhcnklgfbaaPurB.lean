/-
  The walk of qrlayout's purpose: modules in the middle, at the column 8 or the row 6.
  Conditions: a layout's slice holds its alignment coordinates; small numbers; the module lies outside the finder patterns.
-/
import Derived.Test.YtjkpdhcnklgfbaaPurC
namespace Go.Proofs.Ytjkpdhcnklgfbaa
open Go.RowKit Go.Bs Go.Qrv Go.Lay


set_option maxRecDepth 20000 in
set_option maxHeartbeats 4000000 in
theorem purpose_3 (v s x y : Int) (ao : Option Addr) (n cap : Nat) (A B C : Int) (w : World) (l : List Int) (hr : Row w ao (ints l)) (hs : 21 ≤ s ∧ s ≤ 1000) (hx : 0 ≤ x ∧ x ≤ 1000) (hy : 0 ≤ y ∧ y ≤ 1000) (hv : 0 ≤ v ∧ v ≤ 1000) (f1 : 8 ≤ x) (f2 : x < s - 8)
    (HAL : ∀ W, Row W ao (ints l) → Hid (Calls Try.prog 88 #[.agg (layV v s ao n cap), .int .i64 x, .int .i64 y] W fun e w' => e = .returned (.tuple #[.agg #[.int .i64 A, .int .i64 B], .bool false]) ∧ Ext W w'))
    (HQ : Hid (PurQ v s x y C)) :
    Calls Try.prog 73 #[.agg (layV v s ao n cap), .int .i64 x, .int .i64 y] w fun e w' => e = .returned (.int .i64 C) ∧ Ext w w' := by
  by_cases hfar : 8 < x ∧ y ≠ 6
  · exact purpose_4 v s x y ao n cap A B C w l hr hs hx hy hv hfar.1 f2 hfar.2 HAL HQ
  have HR := Lib.hid hr
  clear hr
  unfold layV at HAL ⊢
  go_enter Try.func73, Try.ntmps73
  go_wp2_with fail
  refine (HAL _ (HR.out.ext (Ext.alloc _ _))).out.mono ?_
  rintro e w1 ⟨rfl, hx1⟩
  have HX1 := Lib.hid ((Ext.alloc _ _).trans hx1)
  obtain ⟨z0, z1, z2⟩ := box3 (hx1.trans (Ext.alloc _ (.cells #[.int .i64 A, .int .i64 B] 45)))
  clear hx1 HAL HR z1 z2
  rcases (show (y = 6) ∨ (x = 8 ∧ y = s - 8) ∨ (x = 8 ∧ y = 8) ∨ (x = 8 ∧ y < 8 ∧ y ≠ 6) ∨ (x = 8 ∧ s - 7 ≤ y) ∨ (x = 8 ∧ 8 < y ∧ y < s - 8 ∧ v < 7) ∨ (x = 8 ∧ 8 < y ∧ y < s - 11 ∧ 7 ≤ v) ∨ (x = 8 ∧ 8 < y ∧ y < s - 8 ∧ s - 11 ≤ y ∧ 7 ≤ v) from by omega) with c1 | ⟨c1, c2⟩ | ⟨c1, c2⟩ | ⟨c1, c2, c3⟩ | ⟨c1, c2⟩ | ⟨c1, c2, c3, c4⟩ | ⟨c1, c2, c3, c4⟩ | ⟨c1, c2, c3, c4, c5⟩ | ⟨c1, c2⟩
  · skip
    have hC : C = 3 := HQ.out _ (by (repeat' split) <;> first | rfl | omega)
    clear HQ
    try (have d6 : (x == 6) = false := by simp; omega)
    try (have e6 : (y == 6) = false := by simp; omega)
    try (have d8 : (x == 8) = false := by simp; omega)
    try (have e8 : (y == 8) = false := by simp; omega)
    try (have es8 : (y == s - 8) = false := by simp; omega)
    go_wp2_with fail
    go_ret
    exact ⟨by first | rfl | (rw [hC]; rfl), HX1.out.trans (Ext.alloc _ _)⟩
  · skip
    have hC : C = 7 := HQ.out _ (by (repeat' split) <;> first | rfl | omega)
    clear HQ
    try (have d6 : (x == 6) = false := by simp; omega)
    try (have e6 : (y == 6) = false := by simp; omega)
    try (have d8 : (x == 8) = false := by simp; omega)
    try (have e8 : (y == 8) = false := by simp; omega)
    try (have es8 : (y == s - 8) = false := by simp; omega)
    go_wp2_with fail
    go_ret
    exact ⟨by first | rfl | (rw [hC]; rfl), HX1.out.trans (Ext.alloc _ _)⟩
  · skip
    have hC : C = 5 := HQ.out _ (by (repeat' split) <;> first | rfl | omega)
    clear HQ
    try (have d6 : (x == 6) = false := by simp; omega)
    try (have e6 : (y == 6) = false := by simp; omega)
    try (have d8 : (x == 8) = false := by simp; omega)
    try (have e8 : (y == 8) = false := by simp; omega)
    try (have es8 : (y == s - 8) = false := by simp; omega)
    go_wp2_with fail
    go_ret
    exact ⟨by first | rfl | (rw [hC]; rfl), HX1.out.trans (Ext.alloc _ _)⟩
  · skip
    have hC : C = 5 := HQ.out _ (by (repeat' split) <;> first | rfl | omega)
    clear HQ
    try (have d6 : (x == 6) = false := by simp; omega)
    try (have e6 : (y == 6) = false := by simp; omega)
    try (have d8 : (x == 8) = false := by simp; omega)
    try (have e8 : (y == 8) = false := by simp; omega)
    try (have es8 : (y == s - 8) = false := by simp; omega)
    go_wp2_with fail
    go_ret
    exact ⟨by first | rfl | (rw [hC]; rfl), HX1.out.trans (Ext.alloc _ _)⟩
  · skip
    have hC : C = 5 := HQ.out _ (by (repeat' split) <;> first | rfl | omega)
    clear HQ
    try (have d6 : (x == 6) = false := by simp; omega)
    try (have e6 : (y == 6) = false := by simp; omega)
    try (have d8 : (x == 8) = false := by simp; omega)
    try (have e8 : (y == 8) = false := by simp; omega)
    try (have es8 : (y == s - 8) = false := by simp; omega)
    go_wp2_with fail
    go_ret
    exact ⟨by first | rfl | (rw [hC]; rfl), HX1.out.trans (Ext.alloc _ _)⟩
  · skip
    have hC : C = 1 := HQ.out _ (by (repeat' split) <;> first | rfl | omega)
    clear HQ
    try (have d6 : (x == 6) = false := by simp; omega)
    try (have e6 : (y == 6) = false := by simp; omega)
    try (have d8 : (x == 8) = false := by simp; omega)
    try (have e8 : (y == 8) = false := by simp; omega)
    try (have es8 : (y == s - 8) = false := by simp; omega)
    go_wp2_with fail
    go_ret
    exact ⟨by first | rfl | (rw [hC]; rfl), HX1.out.trans (Ext.alloc _ _)⟩
  · skip
    have hC : C = 1 := HQ.out _ (by (repeat' split) <;> first | rfl | omega)
    clear HQ
    try (have d6 : (x == 6) = false := by simp; omega)
    try (have e6 : (y == 6) = false := by simp; omega)
    try (have d8 : (x == 8) = false := by simp; omega)
    try (have e8 : (y == 8) = false := by simp; omega)
    try (have es8 : (y == s - 8) = false := by simp; omega)
    go_wp2_with fail
    go_ret
    exact ⟨by first | rfl | (rw [hC]; rfl), HX1.out.trans (Ext.alloc _ _)⟩
  · skip
    have hC : C = 1 := HQ.out _ (by (repeat' split) <;> first | rfl | omega)
    clear HQ
    try (have d6 : (x == 6) = false := by simp; omega)
    try (have e6 : (y == 6) = false := by simp; omega)
    try (have d8 : (x == 8) = false := by simp; omega)
    try (have e8 : (y == 8) = false := by simp; omega)
    try (have es8 : (y == s - 8) = false := by simp; omega)
    go_wp2_with fail
    go_ret
    exact ⟨by first | rfl | (rw [hC]; rfl), HX1.out.trans (Ext.alloc _ _)⟩

end Go.Proofs.Ytjkpdhcnklgfbaa
