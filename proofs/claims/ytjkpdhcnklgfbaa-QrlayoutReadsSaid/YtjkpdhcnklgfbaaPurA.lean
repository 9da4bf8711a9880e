/-
  The walk of qrlayout's purpose: modules at the left and at the right.
  Conditions: a layout's slice holds its alignment coordinates; small numbers; the module lies outside the finder patterns.
-/
import Derived.Test.YtjkpdhcnklgfbaaLayB
namespace Go.Proofs.Ytjkpdhcnklgfbaa
open Go.RowKit Go.Bs Go.Qrv Go.Lay


set_option maxRecDepth 20000 in
set_option maxHeartbeats 4000000 in
theorem purpose_1 (v s x y : Int) (ao : Option Addr) (n cap : Nat) (A B C : Int) (w : World) (l : List Int) (hr : Row w ao (ints l)) (hs : 21 ≤ s ∧ s ≤ 1000) (hx : 0 ≤ x ∧ x ≤ 1000) (hy : 0 ≤ y ∧ y ≤ 1000) (hv : 0 ≤ v ∧ v ≤ 1000) (f1 : x < 8) (f2 : 8 ≤ y) (f3 : y < s - 8)
    (HAL : ∀ W, Row W ao (ints l) → Hid (Calls Try.prog 88 #[.agg (layV v s ao n cap), .int .i64 x, .int .i64 y] W fun e w' => e = .returned (.tuple #[.agg #[.int .i64 A, .int .i64 B], .bool false]) ∧ Ext W w'))
    (HQ : Hid (PurQ v s x y C)) :
    Calls Try.prog 73 #[.agg (layV v s ao n cap), .int .i64 x, .int .i64 y] w fun e w' => e = .returned (.int .i64 C) ∧ Ext w w' := by
  have HR := Lib.hid hr
  clear hr
  unfold layV at HAL ⊢
  go_enter Try.func73, Try.ntmps73
  go_wp2_with fail
  refine (HAL _ (HR.out.ext (Ext.alloc _ _))).out.mono ?_
  rintro e w1 ⟨rfl, hx1⟩
  have HX1 := Lib.hid ((Ext.alloc _ _).trans hx1)
  obtain ⟨z0, z1, z2⟩ := box3 (hx1.trans (Ext.alloc _ (.cells #[.int .i64 A, .int .i64 B] 45)))
  clear hx1 HAL HR z1 z2
  rcases (show (x = 6) ∨ (x ≠ 6 ∧ y = 8) ∨ (x ≠ 6 ∧ y ≠ 8 ∧ v < 7) ∨ (x ≠ 6 ∧ y ≠ 8 ∧ 7 ≤ v ∧ y < s - 11) ∨ (x ≤ 5 ∧ y ≠ 8 ∧ 7 ≤ v ∧ s - 11 ≤ y) ∨ (5 < x ∧ x ≠ 6 ∧ y ≠ 8 ∧ 7 ≤ v ∧ s - 11 ≤ y) from by omega) with c1 | ⟨c1, c2⟩ | ⟨c1, c2, c3⟩ | ⟨c1, c2, c3, c4⟩ | ⟨c1, c2, c3, c4⟩ | ⟨c1, c2, c3, c4, c5⟩
  · skip
    have hC : C = 3 := HQ.out _ (by (repeat' split) <;> first | rfl | omega)
    clear HQ
    try (have d6 : (x == 6) = false := by simp; omega)
    try (have e6 : (y == 6) = false := by simp; omega)
    try (have d8 : (x == 8) = false := by simp; omega)
    try (have e8 : (y == 8) = false := by simp; omega)
    try (have es8 : (y == s - 8) = false := by simp; omega)
    go_wp2_with fail
    go_ret
    exact ⟨by first | rfl | (rw [hC]; rfl), HX1.out.trans (Ext.alloc _ _)⟩
  · skip
    have hC : C = 5 := HQ.out _ (by (repeat' split) <;> first | rfl | omega)
    clear HQ
    try (have d6 : (x == 6) = false := by simp; omega)
    try (have e6 : (y == 6) = false := by simp; omega)
    try (have d8 : (x == 8) = false := by simp; omega)
    try (have e8 : (y == 8) = false := by simp; omega)
    try (have es8 : (y == s - 8) = false := by simp; omega)
    go_wp2_with fail
    go_ret
    exact ⟨by first | rfl | (rw [hC]; rfl), HX1.out.trans (Ext.alloc _ _)⟩
  · skip
    have hC : C = 1 := HQ.out _ (by (repeat' split) <;> first | rfl | omega)
    clear HQ
    try (have d6 : (x == 6) = false := by simp; omega)
    try (have e6 : (y == 6) = false := by simp; omega)
    try (have d8 : (x == 8) = false := by simp; omega)
    try (have e8 : (y == 8) = false := by simp; omega)
    try (have es8 : (y == s - 8) = false := by simp; omega)
    go_wp2_with fail
    go_ret
    exact ⟨by first | rfl | (rw [hC]; rfl), HX1.out.trans (Ext.alloc _ _)⟩
  · skip
    have hC : C = 1 := HQ.out _ (by (repeat' split) <;> first | rfl | omega)
    clear HQ
    try (have d6 : (x == 6) = false := by simp; omega)
    try (have e6 : (y == 6) = false := by simp; omega)
    try (have d8 : (x == 8) = false := by simp; omega)
    try (have e8 : (y == 8) = false := by simp; omega)
    try (have es8 : (y == s - 8) = false := by simp; omega)
    go_wp2_with fail
    go_ret
    exact ⟨by first | rfl | (rw [hC]; rfl), HX1.out.trans (Ext.alloc _ _)⟩
  · skip
    have hC : C = 6 := HQ.out _ (by (repeat' split) <;> first | rfl | omega)
    clear HQ
    try (have d6 : (x == 6) = false := by simp; omega)
    try (have e6 : (y == 6) = false := by simp; omega)
    try (have d8 : (x == 8) = false := by simp; omega)
    try (have e8 : (y == 8) = false := by simp; omega)
    try (have es8 : (y == s - 8) = false := by simp; omega)
    go_wp2_with fail
    go_ret
    exact ⟨by first | rfl | (rw [hC]; rfl), HX1.out.trans (Ext.alloc _ _)⟩
  · skip
    have hC : C = 1 := HQ.out _ (by (repeat' split) <;> first | rfl | omega)
    clear HQ
    try (have d6 : (x == 6) = false := by simp; omega)
    try (have e6 : (y == 6) = false := by simp; omega)
    try (have d8 : (x == 8) = false := by simp; omega)
    try (have e8 : (y == 8) = false := by simp; omega)
    try (have es8 : (y == s - 8) = false := by simp; omega)
    go_wp2_with fail
    go_ret
    exact ⟨by first | rfl | (rw [hC]; rfl), HX1.out.trans (Ext.alloc _ _)⟩

set_option maxRecDepth 20000 in
set_option maxHeartbeats 4000000 in
theorem purpose_2 (v s x y : Int) (ao : Option Addr) (n cap : Nat) (A B C : Int) (w : World) (l : List Int) (hr : Row w ao (ints l)) (hs : 21 ≤ s ∧ s ≤ 1000) (hx : 0 ≤ x ∧ x ≤ 1000) (hy : 0 ≤ y ∧ y ≤ 1000) (hv : 0 ≤ v ∧ v ≤ 1000) (f1 : s - 8 ≤ x) (f2 : 8 ≤ y)
    (HAL : ∀ W, Row W ao (ints l) → Hid (Calls Try.prog 88 #[.agg (layV v s ao n cap), .int .i64 x, .int .i64 y] W fun e w' => e = .returned (.tuple #[.agg #[.int .i64 A, .int .i64 B], .bool false]) ∧ Ext W w'))
    (HQ : Hid (PurQ v s x y C)) :
    Calls Try.prog 73 #[.agg (layV v s ao n cap), .int .i64 x, .int .i64 y] w fun e w' => e = .returned (.int .i64 C) ∧ Ext w w' := by
  have HR := Lib.hid hr
  clear hr
  unfold layV at HAL ⊢
  go_enter Try.func73, Try.ntmps73
  go_wp2_with fail
  refine (HAL _ (HR.out.ext (Ext.alloc _ _))).out.mono ?_
  rintro e w1 ⟨rfl, hx1⟩
  have HX1 := Lib.hid ((Ext.alloc _ _).trans hx1)
  obtain ⟨z0, z1, z2⟩ := box3 (hx1.trans (Ext.alloc _ (.cells #[.int .i64 A, .int .i64 B] 45)))
  clear hx1 HAL HR z1 z2
  rcases (show (y = 8) ∨ (y ≠ 8 ∧ v < 7) ∨ (y ≠ 8 ∧ 7 ≤ v ∧ y < s - 11) ∨ (y ≠ 8 ∧ 7 ≤ v ∧ s - 11 ≤ y ∧ y ≤ s - 9) ∨ (y ≠ 8 ∧ 7 ≤ v ∧ s - 9 < y) from by omega) with c1 | ⟨c1, c2⟩ | ⟨c1, c2, c3⟩ | ⟨c1, c2, c3, c4⟩ | ⟨c1, c2, c3⟩
  · skip
    have hC : C = 5 := HQ.out _ (by (repeat' split) <;> first | rfl | omega)
    clear HQ
    try (have d6 : (x == 6) = false := by simp; omega)
    try (have e6 : (y == 6) = false := by simp; omega)
    try (have d8 : (x == 8) = false := by simp; omega)
    try (have e8 : (y == 8) = false := by simp; omega)
    try (have es8 : (y == s - 8) = false := by simp; omega)
    go_wp2_with fail
    go_ret
    exact ⟨by first | rfl | (rw [hC]; rfl), HX1.out.trans (Ext.alloc _ _)⟩
  · skip
    have hC : C = 1 := HQ.out _ (by (repeat' split) <;> first | rfl | omega)
    clear HQ
    try (have d6 : (x == 6) = false := by simp; omega)
    try (have e6 : (y == 6) = false := by simp; omega)
    try (have d8 : (x == 8) = false := by simp; omega)
    try (have e8 : (y == 8) = false := by simp; omega)
    try (have es8 : (y == s - 8) = false := by simp; omega)
    go_wp2_with fail
    go_ret
    exact ⟨by first | rfl | (rw [hC]; rfl), HX1.out.trans (Ext.alloc _ _)⟩
  · skip
    have hC : C = 1 := HQ.out _ (by (repeat' split) <;> first | rfl | omega)
    clear HQ
    try (have d6 : (x == 6) = false := by simp; omega)
    try (have e6 : (y == 6) = false := by simp; omega)
    try (have d8 : (x == 8) = false := by simp; omega)
    try (have e8 : (y == 8) = false := by simp; omega)
    try (have es8 : (y == s - 8) = false := by simp; omega)
    go_wp2_with fail
    go_ret
    exact ⟨by first | rfl | (rw [hC]; rfl), HX1.out.trans (Ext.alloc _ _)⟩
  · skip
    have hC : C = 1 := HQ.out _ (by (repeat' split) <;> first | rfl | omega)
    clear HQ
    try (have d6 : (x == 6) = false := by simp; omega)
    try (have e6 : (y == 6) = false := by simp; omega)
    try (have d8 : (x == 8) = false := by simp; omega)
    try (have e8 : (y == 8) = false := by simp; omega)
    try (have es8 : (y == s - 8) = false := by simp; omega)
    go_wp2_with fail
    go_ret
    exact ⟨by first | rfl | (rw [hC]; rfl), HX1.out.trans (Ext.alloc _ _)⟩
  · skip
    have hC : C = 1 := HQ.out _ (by (repeat' split) <;> first | rfl | omega)
    clear HQ
    try (have d6 : (x == 6) = false := by simp; omega)
    try (have e6 : (y == 6) = false := by simp; omega)
    try (have d8 : (x == 8) = false := by simp; omega)
    try (have e8 : (y == 8) = false := by simp; omega)
    try (have es8 : (y == s - 8) = false := by simp; omega)
    go_wp2_with fail
    go_ret
    exact ⟨by first | rfl | (rw [hC]; rfl), HX1.out.trans (Ext.alloc _ _)⟩

end Go.Proofs.Ytjkpdhcnklgfbaa
