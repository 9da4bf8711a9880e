/-
  For every input BitsAppends returns true, and each argument reads afterwards as it read before (Rows.BitsAppendsSaid).
  No condition.
-/
import Derived.Test.YtkkfldnkenbplaaLawBase
namespace Go.Proofs.Ytkkfldnkenbplaa
open Go.RowKit Go.Bs Go.ChangeShapes Go.WideShapes Go.ChangeAt Go.Joins

set_option maxRecDepth 20000 in
set_option maxHeartbeats 1000000 in
theorem bitsAppends_walk (ao : Option Addr) (len cap : Nat) (xs : List Bool) (v n at' : Int) (w : World) (hl : xs.length = len) (hcap : len ≤ cap) (hb : cap ≤ 9223372036854775807) (hn0 : ao = none → cap = 0) (hr : Row w ao (bools xs))
    (_ : -9223372036854775808 ≤ v ∧ v ≤ 9223372036854775807) (_ : -9223372036854775808 ≤ n ∧ n ≤ 9223372036854775807) (_ : -9223372036854775808 ≤ at' ∧ at' ≤ 9223372036854775807) :
    Calls Try.prog 3 #[.slice ao len cap, .agg #[.int .i64 v, .int .i64 n], .int .i64 at'] w fun e w' => e = .returned (.bool true) ∧ Ext w w' := by
  have HL := Lib.hid hl
  clear hl
  go_enter Try.func3, Try.ntmps3
  go_wp2_with fail
  · refine (alive_any _).mono ?_
    rintro e w1 ⟨rfl, hx⟩
    go_wp2_with fail
    go_ret
    exact ⟨rfl, (Ext.alloc _ _).trans hx⟩
  · have hle : xs.length ≤ 2000 := by have := HL.out; omega
    have hq := appRes_len xs v n
    obtain ⟨r, hA⟩ : ∃ r, r = appRes xs v n := ⟨_, rfl⟩
    obtain ⟨t, hT⟩ : ∃ t, t = takeRes xs at' n := ⟨_, rfl⟩
    rw [← hA] at hq
    have HA := Lib.hid hA
    have HT := Lib.hid hT
    clear hA hT
    obtain ⟨ys, c⟩ := r
    obtain ⟨t1, t2⟩ := t
    simp only at hq
    have hr0 := hr.ext (Ext.alloc w (.cells #[.int .i64 v, .int .i64 n] 24))
    have hx0 := Ext.alloc w (.cells #[.int .i64 v, .int .i64 n] 24)
    obtain ⟨k0, k1⟩ := two_alloc w (.int .i64 v) (.int .i64 n) 24
    refine (append_any _ _ _ xs _ _ _ HL.out (by omega) hr0).mono ?_
    rw [← HA.out]
    intro e w1 hret
    obtain ⟨b1, c1, rfl, hr1, hc1, hm1, hn1, hx1⟩ := hret.bools
    clear hret
    have hra := hr0.ext hx1
    replace k0 := hx1.cell k0
    replace k1 := hx1.cell k1
    go_wp2_with fail
    refine (rappend_any _ _ _ xs _ _ _ HL.out (by omega) hn0 hra).mono ?_
    rw [← HA.out]
    intro e w2 hret
    obtain ⟨b2, c2, rfl, hr2, hc2, hm2, hn2, hx2⟩ := hret.bools
    clear hret
    replace hr1 := hr1.ext hx2
    replace hra := hra.ext hx2
    replace k0 := hx2.cell k0
    replace k1 := hx2.cell k1
    go_wp2_with fail
    refine (take_any _ _ _ xs _ _ _ HL.out hcap hb hra).mono ?_
    rw [← HT.out]
    rintro e w' ⟨rfl, rfl⟩
    simp only [two]
    go_wp2_with fail
    refine (rtake_any _ _ _ xs _ _ _ HL.out (by omega) hra).mono ?_
    rw [← HT.out]
    rintro e w' ⟨rfl, rfl⟩
    simp only [two]
    go_wp2_with fail
    refine (same_any _ _ _ _ _ _ ys ys _ rfl rfl (by omega) hr1 hr2).mono ?_
    rw [show (ys == ys) = true from by simp]
    rintro e w3 ⟨rfl, hx3⟩
    go_wp2_with fail
    refine (alive_any _).mono ?_
    rintro e w4 ⟨rfl, hx4⟩
    go_wp2_with fail
    go_ret
    exact ⟨rfl, hx0.trans (hx1.trans (hx2.trans (hx3.trans hx4)))⟩

set_option maxRecDepth 100000 in
theorem bitsAppends_lifted (os : Os) (started : os.Started) (H : Type) (enc : TypeId × Value → H) :
    ReturnsInHanded {} Try.checked os 3 .any (Rows.bitsAppendsSpec.pre6 enc Try.prog Try.f3 Rows.bitsAppendsRow.domain false) (Rows.bitsAppendsSpec.post enc Try.prog Try.f3 false true false false) := by
  refine returnsInHanded_of_change (C := Try.checked) Try.own started (by kernel_rfl) Try.func3
    (ChangeSpec.witness6 (enc := enc) (C := Try.checked) false ⟨#[], #[.slice none 0 0, .agg #[.int .i64 0, .int .i64 0], .int .i64 0], []⟩ 8 (by kernel_rfl) (by kernel_rfl) (by kernel_rfl) (by kernel_rfl)) ?_
  intro W base args ds gs before hval0 hW _ _
  have hval : ∀ (j : Nat) t v, Try.f3.params[j]? = some t → args[j]? = some v → Value.okWide Try.prog W .any base t v := hval0
  have hW' := hW
  obtain ⟨p, q, hA0, hV, rfl, _, _⟩ := hW
  have hA : DataW.TrodAll enc Try.prog W 0 (fun _ => true) true Try.f3.params.toList args.toList ds p := hA0
  rw [Try.params3] at hA hval
  obtain ⟨rfl, rfl⟩ := trodVars_none hV
  clear hA0 hval0
  simp only [List.append_nil] at hW'
  have hlt : ∀ x ∈ p, x.block < W.heap.size := fun x hx => by simpa using hW'.lt x hx
  have hstay : ∀ W', Below W.heap.size W W' → _ := fun W' hb => args_stay (enc := enc) Try.laidOut hb _ _ _ _ (by kernel_rfl) hA hlt
  obtain ⟨v0, v1, v2, d0, d1, d2, p0, p1, p2, rfl, rfl, rfl, h0, h1, h2⟩ := trodAll_three hA
  obtain ⟨ao0, len0, cap0, rfl⟩ := okWide_slice Try.underlying22 (hval 0 22 v0 rfl rfl)
  obtain ⟨fuel0, hf0⟩ := h0
  obtain ⟨xs0, ao0', len0', cap0', hv0, hl0, hc0, hm0, hn0, hr0⟩ := view_bools Try.underlying22 Try.underlying4 Try.cellsBool hf0
  cases hv0
  obtain ⟨c1_0, c1_1, y1_0, y1_1, m1, rfl, rfl, rfl, hy1_0, hy1_1⟩ := open_agg2 Try.underlying24 (by kernel_rfl) (by kernel_rfl) (hval 1 24 v1 rfl rfl) h1
  obtain ⟨x1, ex1, _, wx1⟩ := DataW.trod_int Try.underlying3 hy1_0
  simp at ex1
  subst ex1
  obtain ⟨x2, ex2, _, wx2⟩ := DataW.trod_int Try.underlying3 hy1_1
  simp at ex2
  subst ex2
  obtain ⟨x3, rfl, rfl, rfl, wx3⟩ := open_int Try.underlying3 (hval 2 3 v2 rfl rfl) h2
  refine (bitsAppends_walk ao0 len0 cap0 xs0 x1 x2 x3 W (by rw [length_bools] at hl0; exact hl0) hc0 hm0 hn0 hr0 (wf_i64_bd wx1) (wf_i64_bd wx2) (wf_i64_bd wx3)).mono fun e W' ⟨he, hb⟩ => ?_
  subst he
  exact ⟨_, rfl, _, _, _, [], _, [], hW', trodAll_mk1 (shut_bool Try.underlying4 _), hstay W' hb, rfl, hb.frame _, fun h => by cases h⟩

theorem bitsAppends_holds : Rows.BitsAppendsSaid :=
  OpenClaim.holds_of_wide 3 Try.f3 rfl rfl rfl rfl rfl rfl rfl ⟨rfl, rfl, rfl, rfl, rfl⟩ rfl rfl rfl rfl rfl (by kernel_rfl) Try.func3 (by kernel_rfl)
    (of_decide_eq_true (by kernel_rfl)) (by unfold Func.isWrapper; first | (rw [if_pos (by decide +kernel)]; kernel_rfl) | (rw [if_neg (by decide +kernel)]; exact ⟨rfl, rfl⟩))
    (fun os started H enc _ => bitsAppends_lifted os started H enc)


end Go.Proofs.Ytkkfldnkenbplaa
