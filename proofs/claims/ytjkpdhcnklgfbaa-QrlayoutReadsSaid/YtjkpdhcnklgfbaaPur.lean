/-
  The contract of qrlayout's purpose.
  Conditions: a layout's slice holds its alignment coordinates; small numbers.
-/
import Derived.Test.YtjkpdhcnklgfbaaPurA
import Derived.Test.YtjkpdhcnklgfbaaPurB
namespace Go.Proofs.Ytjkpdhcnklgfbaa
open Go.RowKit Go.Bs Go.Qrv Go.Lay

set_option maxRecDepth 20000 in
set_option maxHeartbeats 4000000 in
theorem purpose_any (v s x y : Int) (l : List Int) (ao : Option Addr) (cap : Nat) (w : World) (hr : Row w ao (ints l)) (hn : l.length ≤ 1000) (hb : ∀ a ∈ l, 0 ≤ a ∧ a ≤ 1000) (hs : 21 ≤ s ∧ s ≤ 1000) (hx : 0 ≤ x ∧ x ≤ 1000) (hy : 0 ≤ y ∧ y ≤ 1000) (hv : 0 ≤ v ∧ v ≤ 1000) :
    Calls Try.prog 73 #[.agg (layV v s ao l.length cap), .int .i64 x, .int .i64 y] w fun e w' => e = .returned (.int .i64 (pur v s l x y)) ∧ Ext w w' := by
  have HAL := fun (W : World) (h : Row W ao (ints l)) => Lib.hid (align_any v s x y l ao cap W h hn hb (by omega) hx hy)
  have fin : isFin s x y = true → pur v s l x y = 2 := fun h => by unfold pur; rw [if_pos h]
  by_cases hf : isFin s x y = true
  · rw [fin hf]
    clear fin HAL
    have hcs : (x < 8 ∧ y < 8) ∨ (s - 8 ≤ x ∧ y < 8) ∨ (x < 8 ∧ s - 8 ≤ y) := by unfold isFin at hf; simpa [or_assoc] using hf
    clear hf hr hb hn
    generalize l.length = n
    unfold layV
    rcases hcs with ⟨h1, h2⟩ | ⟨h1, h2⟩ | ⟨h1, h2⟩
    all_goals
      go_enter Try.func73, Try.ntmps73
      go_wp2_with fail
      go_ret
      exact ⟨rfl, Ext.alloc _ _⟩
  · have hfc : (x < 8 ∧ 8 ≤ y ∧ y < s - 8) ∨ (s - 8 ≤ x ∧ 8 ≤ y) ∨ (8 ≤ x ∧ x < s - 8) := by
      have hf2 := hf
      unfold isFin at hf2
      simp at hf2
      omega
    cases hp : (alP l s x y).2
    · have HQ := Lib.hid (purQ v s x y l hf hp)
      rw [hp] at HAL
      rcases hfc with ⟨f1, f2, f3⟩ | ⟨f1, f2⟩ | ⟨f1, f2⟩
      · exact purpose_1 v s x y ao l.length cap _ _ _ w l hr hs hx hy hv f1 f2 f3 HAL HQ
      · exact purpose_2 v s x y ao l.length cap _ _ _ w l hr hs hx hy hv f1 f2 HAL HQ
      · exact purpose_3 v s x y ao l.length cap _ _ _ w l hr hs hx hy hv f1 f2 HAL HQ
    · have h4 : pur v s l x y = 4 := by unfold pur; rw [if_neg hf, if_pos hp]
      rw [h4]
      rw [hp] at HAL
      have HR := Lib.hid hr
      clear h4 hp hf fin hr hb hn
      generalize (alP l s x y).1 = AB at HAL
      obtain ⟨A, B⟩ := AB
      generalize l.length = n at HAL ⊢
      unfold layV at HAL ⊢
      rcases hfc with ⟨f1, f2, f3⟩ | ⟨f1, f2⟩ | ⟨f1, f2⟩
      all_goals
        go_enter Try.func73, Try.ntmps73
        go_wp2_with fail
        refine (HAL _ (HR.out.ext (Ext.alloc _ _))).out.mono ?_
        rintro e w1 ⟨rfl, hx1⟩
        have HX1 := Lib.hid ((Ext.alloc _ _).trans hx1)
        clear hx1 HAL HR
        go_wp2_with fail
        go_ret
        exact ⟨rfl, HX1.out.trans (Ext.alloc _ _)⟩

end Go.Proofs.Ytjkpdhcnklgfbaa
