/-
  For every input BitsTexts returns true, and each argument reads afterwards as it read before (Rows.BitsTextsSaid).
  No condition.
-/
import Derived.Test.YtkkfldnkenbplaaLawBase
namespace Go.Proofs.Ytkkfldnkenbplaa
open Go.RowKit Go.Bs Go.ChangeShapes Go.WideShapes Go.ChangeAt Go.Joins
open Go.ChangeMaps (open_string shut_string)

theorem parseRes_len (s : List UInt8) : (parseRes s).1.length ≤ s.length := by
  unfold parseRes
  split
  · simp
  · split
    · rw [length_pbits]; exact Nat.le_refl _
    · simp

set_option maxRecDepth 20000 in
set_option maxHeartbeats 1000000 in
theorem bitsTexts_walk (ao : Option Addr) (len cap : Nat) (xs : List Bool) (bo : Option Addr) (lb cb : Nat) (ys : List Bool) (s : ByteArray) (w : World)
    (hl : xs.length = len) (_ : len ≤ cap) (_ : cap ≤ 9223372036854775807) (_ : ao = none → cap = 0) (hr : Row w ao (bools xs))
    (hl2 : ys.length = lb) (_ : lb ≤ cb) (_ : cb ≤ 9223372036854775807) (_ : bo = none → cb = 0) (hr2 : Row w bo (bools ys)) (hs : s.size ≤ 9223372036854775807) :
    Calls Try.prog 8 #[.slice ao len cap, .slice bo lb cb, .string s] w fun e w' => e = .returned (.bool true) ∧ Ext w w' := by
  have HL := Lib.hid hl
  have HL2 := Lib.hid hl2
  clear hl hl2
  go_enter Try.func8, Try.ntmps8
  by_cases hbig : 2000 < len ∨ 2000 < lb ∨ 2000 < s.size
  · rcases hbig with h | h | h
    all_goals
      go_wp2_with (go_at_call 12; refine (alive_any _).mono ?_; rintro e w1 ⟨rfl, hx⟩)
      all_goals
        go_ret
        exact ⟨rfl, by assumption⟩
  · have hle : xs.length ≤ 2000 := by have := HL.out; omega
    have hle2 : ys.length ≤ 2000 := by have := HL2.out; omega
    have hs1 : len ≤ 2000 := by omega
    have hs2 : lb ≤ 2000 := by omega
    have hs3 : s.size ≤ 2000 := by omega
    clear hbig hs
    have hq := parseRes_len s.data.toList
    have hsz : s.data.toList.length ≤ 2000 := by simpa using hs3
    obtain ⟨r, hA⟩ : ∃ r, r = parseRes s.data.toList := ⟨_, rfl⟩
    obtain ⟨t, hT⟩ : ∃ t, t = distRes xs ys := ⟨_, rfl⟩
    rw [← hA] at hq
    have HA := Lib.hid hA
    have HT := Lib.hid hT
    clear hA hT
    obtain ⟨zs, c⟩ := r
    obtain ⟨t1, t2⟩ := t
    simp only at hq
    have hq' : zs.length ≤ 2000 := by omega
    clear hq hsz
    go_wp2_with fail
    refine (parse_any _ _ (by omega)).mono ?_
    rw [← HA.out]
    intro e w1 hret
    obtain ⟨b1, c1, rfl, h1, _, _, _, hx1⟩ := hret.bools
    clear hret
    replace hr := hr.ext hx1
    replace hr2 := hr2.ext hx1
    go_wp2_with fail
    refine (rparse_any _ _ (by omega)).mono ?_
    rw [← HA.out]
    intro e w2 hret
    obtain ⟨b2, c2, rfl, h2, _, _, _, hx2⟩ := hret.bools
    clear hret
    replace h1 := h1.ext hx2
    replace hr := hr.ext hx2
    replace hr2 := hr2.ext hx2
    go_wp2_with fail
    refine (distance_any _ _ _ _ _ _ xs ys _ HL.out HL2.out (by omega) hr hr2).mono ?_
    rw [← HT.out]
    rintro e w3 ⟨rfl, hx3⟩
    simp only [two]
    replace h1 := h1.ext hx3
    replace h2 := h2.ext hx3
    replace hr := hr.ext hx3
    replace hr2 := hr2.ext hx3
    go_wp2_with fail
    refine (rdistance_any _ _ _ _ _ _ xs ys _ HL.out HL2.out (by omega) hr hr2).mono ?_
    rw [← HT.out]
    rintro e w4 ⟨rfl, hx4⟩
    simp only [two]
    replace h1 := h1.ext hx4
    replace h2 := h2.ext hx4
    replace hr := hr.ext hx4
    go_wp2_with fail
    refine (format_any _ _ _ xs _ HL.out (by omega) hr).mono ?_
    rintro e w5 ⟨rfl, hx5⟩
    replace h1 := h1.ext hx5
    replace h2 := h2.ext hx5
    replace hr := hr.ext hx5
    go_wp2_with fail
    refine (rformat_any _ _ _ xs _ HL.out (by omega) hr).mono ?_
    rintro e w6 ⟨rfl, hx6⟩
    replace h1 := h1.ext hx6
    replace h2 := h2.ext hx6
    replace hr := hr.ext hx6
    go_wp2_with fail
    refine (same_any _ _ _ _ _ _ zs zs _ rfl rfl (by omega) h1 h2).mono ?_
    rw [show (zs == zs) = true from by simp]
    rintro e w7 ⟨rfl, hx7⟩
    replace hr := hr.ext hx7
    go_wp2_with fail
    refine (weight_any _ _ _ xs _ HL.out (by omega) hr).mono ?_
    rintro e w' ⟨rfl, rfl⟩
    go_wp2_with fail
    refine (rweight_any _ _ _ xs _ HL.out (by omega) hr).mono ?_
    rintro e w' ⟨rfl, rfl⟩
    go_wp2_with fail
    refine (alive_any _).mono ?_
    rintro e w8 ⟨rfl, hx8⟩
    go_wp2_with fail
    go_ret
    exact ⟨rfl, hx1.trans (hx2.trans (hx3.trans (hx4.trans (hx5.trans (hx6.trans (hx7.trans hx8))))))⟩

set_option maxRecDepth 100000 in
theorem bitsTexts_lifted (os : Os) (started : os.Started) (H : Type) (enc : TypeId × Value → H) :
    ReturnsInHanded {} Try.checked os 8 .any (Rows.bitsTextsSpec.pre6 enc Try.prog Try.f8 Rows.bitsTextsRow.domain false) (Rows.bitsTextsSpec.post enc Try.prog Try.f8 false true false false) := by
  refine returnsInHanded_of_change (C := Try.checked) Try.own started (by kernel_rfl) Try.func8
    (ChangeSpec.witness6 (enc := enc) (C := Try.checked) false ⟨#[], #[.slice none 0 0, .slice none 0 0, .string ByteArray.empty], []⟩ 8 (by kernel_rfl) (by kernel_rfl) (by kernel_rfl) (by kernel_rfl)) ?_
  intro W base args ds gs before hval0 hW _ _
  have hval : ∀ (j : Nat) t v, Try.f8.params[j]? = some t → args[j]? = some v → Value.okWide Try.prog W .any base t v := hval0
  have hW' := hW
  obtain ⟨p, q, hA0, hV, rfl, _, _⟩ := hW
  have hA : DataW.TrodAll enc Try.prog W 0 (fun _ => true) true Try.f8.params.toList args.toList ds p := hA0
  rw [Try.params8] at hA hval
  obtain ⟨rfl, rfl⟩ := trodVars_none hV
  clear hA0 hval0
  simp only [List.append_nil] at hW'
  have hlt : ∀ x ∈ p, x.block < W.heap.size := fun x hx => by simpa using hW'.lt x hx
  have hstay : ∀ W', Below W.heap.size W W' → _ := fun W' hb => args_stay (enc := enc) Try.laidOut hb _ _ _ _ (by kernel_rfl) hA hlt
  obtain ⟨v0, v1, v2, d0, d1, d2, p0, p1, p2, rfl, rfl, rfl, h0, h1, h2⟩ := trodAll_three hA
  obtain ⟨ao0, len0, cap0, rfl⟩ := okWide_slice Try.underlying22 (hval 0 22 v0 rfl rfl)
  obtain ⟨fuel0, hf0⟩ := h0
  obtain ⟨xs0, ao0', len0', cap0', hv0, hl0, hc0, hm0, hn0, hr0⟩ := view_bools Try.underlying22 Try.underlying4 Try.cellsBool hf0
  cases hv0
  obtain ⟨ao1, len1, cap1, rfl⟩ := okWide_slice Try.underlying22 (hval 1 22 v1 rfl rfl)
  obtain ⟨fuel1, hf1⟩ := h1
  obtain ⟨xs1, ao1', len1', cap1', hv1, hl1, hc1, hm1, hn1, hr1⟩ := view_bools Try.underlying22 Try.underlying4 Try.cellsBool hf1
  cases hv1
  obtain ⟨x2, rfl, rfl, rfl, wx2⟩ := open_string Try.underlying9 (hval 2 9 v2 rfl rfl) h2
  refine (bitsTexts_walk ao0 len0 cap0 xs0 ao1 len1 cap1 xs1 x2 W (by rw [length_bools] at hl0; exact hl0) hc0 hm0 hn0 hr0 (by rw [length_bools] at hl1; exact hl1) hc1 hm1 hn1 hr1 (by unfold maxLen at wx2; omega)).mono fun e W' ⟨he, hb⟩ => ?_
  subst he
  exact ⟨_, rfl, _, _, _, [], _, [], hW', trodAll_mk1 (shut_bool Try.underlying4 _), hstay W' hb, rfl, hb.frame _, fun h => by cases h⟩

theorem bitsTexts_holds : Rows.BitsTextsSaid :=
  OpenClaim.holds_of_wide 8 Try.f8 rfl rfl rfl rfl rfl rfl rfl ⟨rfl, rfl, rfl, rfl, rfl⟩ rfl rfl rfl rfl rfl (by kernel_rfl) Try.func8 (by kernel_rfl)
    (of_decide_eq_true (by kernel_rfl)) (by unfold Func.isWrapper; first | (rw [if_pos (by decide +kernel)]; kernel_rfl) | (rw [if_neg (by decide +kernel)]; exact ⟨rfl, rfl⟩))
    (fun os started H enc _ => bitsTexts_lifted os started H enc)


end Go.Proofs.Ytkkfldnkenbplaa
