/-
  For every input BitsWords returns true, and each argument reads afterwards as it read before (Rows.BitsWordsSaid).
  No condition.
-/
import Derived.Test.YtkkfldnkenbplaaLawBase
namespace Go.Proofs.Ytkkfldnkenbplaa
open Go.RowKit Go.Bs Go.ChangeShapes Go.WideShapes Go.ChangeAt Go.Joins

theorem wordsRes_len (xs : List Bool) (size : Int) (fill : Bool) : (wordsRes xs size fill).1.length ≤ xs.length := by
  unfold wordsRes
  split
  · simp
  · simp only [wordsTo, List.length_map, List.length_range]
    rw [Nat.div_le_iff_le_mul (by omega)]
    have := Nat.mul_le_mul_left xs.length (show 1 ≤ size.toNat by omega)
    omega
theorem fromRes_len (l : List Int) (size : Int) : (fromRes l size).1.length ≤ l.length * 62 := by
  unfold fromRes
  split
  · simp
  · split
    · simp
    · split
      · simp only [length_fromTo l size.toNat l.length (Nat.le_refl _)]
        exact Nat.mul_le_mul_left _ (by omega)
      · simp

set_option maxRecDepth 20000 in
set_option maxHeartbeats 1000000 in
theorem bitsWords_walk (ao : Option Addr) (len cap : Nat) (xs : List Bool) (bo : Option Addr) (lb cb : Nat) (l : List Int) (size : Int) (fill : Bool) (w : World)
    (hl : xs.length = len) (hcap : len ≤ cap) (_ : cap ≤ 9223372036854775807) (_ : ao = none → cap = 0) (hr : Row w ao (bools xs))
    (hl2 : l.length = lb) (_ : lb ≤ cb) (_ : cb ≤ 9223372036854775807) (_ : bo = none → cb = 0) (hr2 : Row w bo (ints l)) (_ : ∀ n ∈ l, -9223372036854775808 ≤ n ∧ n ≤ 9223372036854775807)
    (_ : -9223372036854775808 ≤ size ∧ size ≤ 9223372036854775807) :
    Calls Try.prog 4 #[.agg #[.slice ao len cap, .slice bo lb cb, .int .i64 size, .bool fill]] w fun e w' => e = .returned (.bool true) ∧ Ext w w' := by
  have HL := Lib.hid hl
  have HL2 := Lib.hid hl2
  clear hl hl2
  have hx0 := Ext.alloc w (.cells #[.slice ao len cap, .slice bo lb cb, .int .i64 size, .bool fill] 35)
  obtain ⟨k0, k1, k2, k3⟩ := four_alloc w (.slice ao len cap) (.slice bo lb cb) (.int .i64 size) (.bool fill) 35
  go_enter Try.func4, Try.ntmps4
  by_cases hbig : 2000 < len ∨ 300 < lb
  · rcases hbig with h | h
    all_goals
      go_wp2_with (go_at_call 12; refine (alive_any _).mono ?_; rintro e w1 ⟨rfl, hx⟩)
      all_goals
        go_ret
        exact ⟨rfl, hx0.trans (by assumption)⟩
  · have hle : xs.length ≤ 2000 := by have := HL.out; omega
    have hle2 : l.length ≤ 300 := by have := HL2.out; omega
    have hs1 : len ≤ 2000 := by omega
    have hs2 : lb ≤ 300 := by omega
    clear hbig
    have hq := wordsRes_len xs size fill
    have hq2 := fromRes_len l size
    obtain ⟨r, hA⟩ : ∃ r, r = wordsRes xs size fill := ⟨_, rfl⟩
    obtain ⟨t, hT⟩ : ∃ t, t = fromRes l size := ⟨_, rfl⟩
    rw [← hA] at hq
    rw [← hT] at hq2
    have HA := Lib.hid hA
    have HT := Lib.hid hT
    clear hA hT
    obtain ⟨ys, c⟩ := r
    obtain ⟨zs, d⟩ := t
    simp only at hq hq2
    replace hr := hr.ext hx0
    replace hr2 := hr2.ext hx0
    go_wp2_with fail
    refine (words_any _ _ _ xs _ _ _ HL.out hcap (by omega) hr).mono ?_
    rw [← HA.out]
    intro e w1 hret
    obtain ⟨b1, c1, rfl, h1, _, _, _, hx1⟩ := hret.ints
    clear hret
    replace hr := hr.ext hx1
    replace hr2 := hr2.ext hx1
    replace k0 := hx1.cell k0
    replace k1 := hx1.cell k1
    replace k2 := hx1.cell k2
    replace k3 := hx1.cell k3
    go_wp2_with fail
    refine (rwords_any _ _ _ xs _ _ _ HL.out (by omega) hr).mono ?_
    rw [← HA.out]
    intro e w2 hret
    obtain ⟨b2, c2, rfl, h2, _, _, _, hx2⟩ := hret.ints
    clear hret
    replace h1 := h1.ext hx2
    replace hr2 := hr2.ext hx2
    replace k1 := hx2.cell k1
    replace k2 := hx2.cell k2
    go_wp2_with fail
    refine (fromWords_any _ _ _ l _ _ HL2.out (by omega) hr2).mono ?_
    rw [← HT.out]
    intro e w3 hret
    obtain ⟨b3, c3, rfl, h3, _, _, _, hx3⟩ := hret.bools
    clear hret
    replace h1 := h1.ext hx3
    replace h2 := h2.ext hx3
    replace hr2 := hr2.ext hx3
    replace k1 := hx3.cell k1
    replace k2 := hx3.cell k2
    go_wp2_with fail
    refine (rfromWords_any _ _ _ l _ _ HL2.out (by omega) hr2).mono ?_
    rw [← HT.out]
    intro e w4 hret
    obtain ⟨b4, c4, rfl, h4, _, _, _, hx4⟩ := hret.bools
    clear hret
    replace h1 := h1.ext hx4
    replace h2 := h2.ext hx4
    replace h3 := h3.ext hx4
    go_wp2_with fail
    refine (ints_any _ _ _ _ _ _ ys ys _ rfl rfl (by omega) h1 h2).mono ?_
    rw [show (ys == ys) = true from by simp]
    rintro e w5 ⟨rfl, hx5⟩
    replace h3 := h3.ext hx5
    replace h4 := h4.ext hx5
    go_wp2_with fail
    refine (same_any _ _ _ _ _ _ zs zs _ rfl rfl (by omega) h3 h4).mono ?_
    rw [show (zs == zs) = true from by simp]
    rintro e w6 ⟨rfl, hx6⟩
    go_wp2_with fail
    refine (alive_any _).mono ?_
    rintro e w7 ⟨rfl, hx7⟩
    go_wp2_with fail
    go_ret
    exact ⟨rfl, hx0.trans (hx1.trans (hx2.trans (hx3.trans (hx4.trans (hx5.trans (hx6.trans hx7))))))⟩

set_option maxRecDepth 100000 in
theorem bitsWords_lifted (os : Os) (started : os.Started) (H : Type) (enc : TypeId × Value → H) :
    ReturnsInHanded {} Try.checked os 4 .any (Rows.bitsWordsSpec.pre6 enc Try.prog Try.f4 Rows.bitsWordsRow.domain false) (Rows.bitsWordsSpec.post enc Try.prog Try.f4 false true false false) := by
  refine returnsInHanded_of_change (C := Try.checked) Try.own started (by kernel_rfl) Try.func4
    (ChangeSpec.witness6 (enc := enc) (C := Try.checked) false ⟨#[], #[.agg #[.slice none 0 0, .slice none 0 0, .int .i64 0, .bool false]], []⟩ 8 (by kernel_rfl) (by kernel_rfl) (by kernel_rfl) (by kernel_rfl)) ?_
  intro W base args ds gs before hval0 hW _ _
  have hval : ∀ (j : Nat) t v, Try.f4.params[j]? = some t → args[j]? = some v → Value.okWide Try.prog W .any base t v := hval0
  have hW' := hW
  obtain ⟨p, q, hA0, hV, rfl, _, _⟩ := hW
  have hA : DataW.TrodAll enc Try.prog W 0 (fun _ => true) true Try.f4.params.toList args.toList ds p := hA0
  rw [Try.params4] at hA hval
  obtain ⟨rfl, rfl⟩ := trodVars_none hV
  clear hA0 hval0
  simp only [List.append_nil] at hW'
  have hlt : ∀ x ∈ p, x.block < W.heap.size := fun x hx => by simpa using hW'.lt x hx
  have hstay : ∀ W', Below W.heap.size W W' → _ := fun W' hb => args_stay (enc := enc) Try.laidOut hb _ _ _ _ (by kernel_rfl) hA hlt
  obtain ⟨v0, d0, rfl, rfl, h0⟩ := trodAll_one hA
  obtain ⟨c0_0, c0_1, c0_2, c0_3, y0_0, y0_1, y0_2, y0_3, m0, rfl, rfl, rfl, hy0_0, hy0_1, hy0_2, hy0_3⟩ := open_agg4 Try.underlying35 (by kernel_rfl) (by kernel_rfl) (hval 0 35 v0 rfl rfl) h0
  obtain ⟨xs0, ao0', len0', cap0', hv0, hl0, hc0, hm0, hn0, hr0⟩ := view_bools Try.underlying22 Try.underlying4 Try.cellsBool hy0_0
  subst hv0
  obtain ⟨xs1, ⟨ao1', len1', cap1', hv1, hl1, hc1, hm1, hn1, hr1⟩, hw1⟩ := view_nums Try.underlying33 Try.underlying3 Try.cellsInt hy0_1
  subst hv1
  obtain ⟨x2, ex2, _, wx2⟩ := DataW.trod_int Try.underlying3 hy0_2
  simp at ex2
  subst ex2
  obtain ⟨x3, ex3, _⟩ := DataW.trod_bool Try.underlying4 hy0_3
  simp at ex3
  subst ex3
  refine (bitsWords_walk ao0' len0' cap0' xs0 ao1' len1' cap1' xs1 x2 x3 W (by rw [length_bools] at hl0; exact hl0) hc0 hm0 hn0 hr0 (by rw [List.length_map] at hl1; exact hl1) hc1 hm1 hn1 hr1 (fun n hn => wf_i64_bd (hw1 n hn)) (wf_i64_bd wx2)).mono fun e W' ⟨he, hb⟩ => ?_
  subst he
  exact ⟨_, rfl, _, _, _, [], _, [], hW', trodAll_mk1 (shut_bool Try.underlying4 _), hstay W' hb, rfl, hb.frame _, fun h => by cases h⟩

theorem bitsWords_holds : Rows.BitsWordsSaid :=
  OpenClaim.holds_of_wide 4 Try.f4 rfl rfl rfl rfl rfl rfl rfl ⟨rfl, rfl, rfl, rfl, rfl⟩ rfl rfl rfl rfl rfl (by kernel_rfl) Try.func4 (by kernel_rfl)
    (of_decide_eq_true (by kernel_rfl)) (by unfold Func.isWrapper; first | (rw [if_pos (by decide +kernel)]; kernel_rfl) | (rw [if_neg (by decide +kernel)]; exact ⟨rfl, rfl⟩))
    (fun os started H enc _ => bitsWords_lifted os started H enc)


end Go.Proofs.Ytkkfldnkenbplaa
