/-
  For every input QrversionSmallest returns true, and each argument reads afterwards as it read before (Rows.QrversionSmallestSaid).
  No condition.
-/
import Derived.Test.YthebfpolijajgaaSmA
import Derived.Test.YthebfpolijajgaaExA
import Derived.Test.YthebfpolijajgaaExB
namespace Go.Proofs.Ythebfpolijajgaa
open Go.RowKit Go.Bs Go.ChangeShapes Go.WideShapes Go.ChangeAt Go.Joins Go.Mode Go.Qrv

set_option maxRecDepth 20000 in
set_option maxHeartbeats 1000000 in
theorem qrversionSmallest_walk (ao : Option Addr) (len cap : Nat) (p : List UInt8) (lv x : Int) (w : World) (hl : p.length = len) (hc : len ≤ cap) (hm : cap ≤ 9223372036854775807) (hn : ao = none → cap = 0) (hr : Row w ao (byts p)) (_ : -9223372036854775808 ≤ lv ∧ lv ≤ 9223372036854775807) (hx : -9223372036854775808 ≤ x ∧ x ≤ 9223372036854775807) :
    Calls Try.prog 3 #[.slice ao len cap, .int .i64 lv, .int .i64 x] w fun e w' => e = .returned (.bool true) ∧ Ext w w' := by
  have HL := Lib.hid hl
  have HN := Lib.hid hn
  have HR := Lib.hid hr
  have HXB := Lib.hid hx.2
  clear hl hn hr hx
  obtain ⟨A, hA⟩ : ∃ r, r = smRes p lv x := ⟨_, rfl⟩
  have HA := Lib.hid hA
  clear hA
  obtain ⟨v, l, er⟩ := A
  by_cases hbig : 700 < len ∧ len ≤ 4096
  · obtain ⟨h1, h2⟩ := hbig
    go_enter Try.func3, Try.ntmps3
    go_wp2_with fail
    refine (alive_any _).mono ?_
    rintro e w6 ⟨rfl, hx6⟩
    go_wp2_with fail
    go_ret
    exact ⟨rfl, hx6⟩
  · have hcs : (decide ((700 : Int) < len) && decide ((len : Int) ≤ 4096)) = false := by simp; omega
    have hcs2 : len ≤ 700 ∨ 4096 < len := by omega
    clear hbig
    rcases hcs2 with h1 | h1
    all_goals
      go_enter Try.func3, Try.ntmps3
      go_wp2_with fail
      refine (smallest_any ao len cap p lv x w HL.out hc hm HN.out HR.out HXB.out).mono ?_
      rw [← HA.out]
      rintro e w1 ⟨ao1, cap1, rfl, hs1, hc1, hm1, hx1⟩
      simp only at hs1 hc1 ⊢
      have HS1 := Lib.hid hs1.segs
      have HX1 := Lib.hid hx1
      clear hs1 hx1
      go_wp2_with fail
      refine (rsmallest_any ao len cap p lv x w1 HL.out hc hm (HR.out.ext HX1.out)).mono ?_
      rw [← HA.out]
      rintro e w2 ⟨ao2, cap2, rfl, hs2, hc2, hm2, hx2⟩
      simp only at hs2 hc2 ⊢
      have HS2 := Lib.hid hs2.segs
      have HX2 := Lib.hid hx2
      clear hs2 hx2
      have he : (er == er) = true := by simp
      have hev : (v == v) = true := by simp
      go_wp2_with fail
      refine (segments_any ao1 ao2 cap1 cap2 l w2 (by omega) (HS1.out.ext HX2.out) HS2.out).mono ?_
      rintro e w3 ⟨rfl, hx3⟩
      go_wp2_with fail
      refine (alive_any _).mono ?_
      rintro e w6 ⟨rfl, hx6⟩
      go_wp2_with fail
      go_ret
      exact ⟨rfl, HX1.out.trans (HX2.out.trans (hx3.trans hx6))⟩

set_option maxRecDepth 100000 in
theorem qrversionSmallest_lifted (os : Os) (started : os.Started) (H : Type) (enc : TypeId × Value → H) :
    ReturnsInHanded {} Try.checked os 3 .any (Rows.qrversionSmallestSpec.pre6 enc Try.prog Try.f3 Rows.qrversionSmallestRow.domain false) (Rows.qrversionSmallestSpec.post enc Try.prog Try.f3 false true false false) := by
  refine returnsInHanded_of_change (C := Try.checked) Try.own started (by kernel_rfl) Try.func3
    (ChangeSpec.witness6 (enc := enc) (C := Try.checked) false ⟨#[], #[.slice none 0 0, .int .i64 0, .int .i64 0], []⟩ 8 (by kernel_rfl) (by kernel_rfl) (by kernel_rfl) (by kernel_rfl)) ?_
  intro W base args ds gs before hval0 hW _ _
  have hval : ∀ (j : Nat) t v, Try.f3.params[j]? = some t → args[j]? = some v → Value.okWide Try.prog W .any base t v := hval0
  have hW' := hW
  obtain ⟨p, q, hA0, hV, rfl, _, _⟩ := hW
  have hA : DataW.TrodAll enc Try.prog W 0 (fun _ => true) true Try.f3.params.toList args.toList ds p := hA0
  rw [Try.params3] at hA hval
  obtain ⟨rfl, rfl⟩ := trodVars_none hV
  clear hA0 hval0
  simp only [List.append_nil] at hW'
  have hlt : ∀ x ∈ p, x.block < W.heap.size := fun x hx => by simpa using hW'.lt x hx
  have hstay : ∀ W', Below W.heap.size W W' → _ := fun W' hb => args_stay (enc := enc) Try.laidOut hb _ _ _ _ (by kernel_rfl) hA hlt
  obtain ⟨v0, v1, v2, d0, d1, d2, p0, p1, p2, rfl, rfl, rfl, h0, h1, h2⟩ := trodAll_three hA
  obtain ⟨ao0, len0, cap0, rfl⟩ := okWide_slice Try.underlying22 (hval 0 22 v0 rfl rfl)
  obtain ⟨fuel0, hf0⟩ := h0
  obtain ⟨xs0, ao0', len0', cap0', hv0, hl0, hc0, hm0, hn0, hr0⟩ := view_byts Try.underlying22 Try.underlying5 Try.cellsByte hf0
  cases hv0
  obtain ⟨x1, rfl, rfl, rfl, wx1⟩ := open_int Try.underlying23 (hval 1 23 v1 rfl rfl) h1
  obtain ⟨x2, rfl, rfl, rfl, wx2⟩ := open_int Try.underlying3 (hval 2 3 v2 rfl rfl) h2
  refine (qrversionSmallest_walk ao0 len0 cap0 xs0 x1 x2 W (by rw [length_byts] at hl0; exact hl0) hc0 hm0 hn0 hr0 (wf_i64_bd wx1) (wf_i64_bd wx2)).mono fun e W' ⟨he, hb⟩ => ?_
  subst he
  exact ⟨_, rfl, _, _, _, [], _, [], hW', trodAll_mk1 (shut_bool Try.underlying4 _), hstay W' hb, rfl, hb.frame _, fun h => by cases h⟩

theorem qrversionSmallest_holds : Rows.QrversionSmallestSaid :=
  OpenClaim.holds_of_wide 3 Try.f3 rfl rfl rfl rfl rfl rfl rfl ⟨rfl, rfl, rfl, rfl, rfl⟩ rfl rfl rfl rfl rfl (by kernel_rfl) Try.func3 (by kernel_rfl)
    (of_decide_eq_true (by kernel_rfl)) (by unfold Func.isWrapper; first | (rw [if_pos (by decide +kernel)]; kernel_rfl) | (rw [if_neg (by decide +kernel)]; exact ⟨rfl, rfl⟩))
    (fun os started H enc _ => qrversionSmallest_lifted os started H enc)


end Go.Proofs.Ythebfpolijajgaa
