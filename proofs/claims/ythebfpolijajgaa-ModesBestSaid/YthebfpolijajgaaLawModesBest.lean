/-
  For every input ModesBest returns true, and each argument reads afterwards as it read before (Rows.ModesBestSaid).
  No condition.
-/
import Derived.Test.YthebfpolijajgaaModeBase
import Derived.Test.YthebfpolijajgaaRefB
namespace Go.Proofs.Ythebfpolijajgaa
open Go.RowKit Go.Bs Go.ChangeShapes Go.WideShapes Go.ChangeAt Go.Joins Go.Mode

set_option maxRecDepth 20000 in
set_option maxHeartbeats 1000000 in
theorem modesBest_walk (ao : Option Addr) (len cap : Nat) (p : List UInt8) (k : Int) (w : World) (hl : p.length = len) (hc : len ≤ cap) (hm : cap ≤ 9223372036854775807) (hn : ao = none → cap = 0) (hr : Row w ao (byts p)) (_ : -9223372036854775808 ≤ k ∧ k ≤ 9223372036854775807) :
    Calls Try.prog 6 #[.slice ao len cap, .int .i64 k] w fun e w' => e = .returned (.bool true) ∧ Ext w w' := by
  have HL := Lib.hid hl
  have HN := Lib.hid hn
  have HR := Lib.hid hr
  clear hl hn hr
  obtain ⟨A, hA⟩ : ∃ r, r = bestRes p k := ⟨_, rfl⟩
  have HA := Lib.hid hA
  clear hA
  obtain ⟨l, n, er⟩ := A
  by_cases hbig : 300 < len
  · go_enter Try.func6, Try.ntmps6
    go_wp2_with fail
    refine (example_any _).mono ?_
    rintro e w6 ⟨rfl, hx6⟩
    go_wp2_with fail
    go_ret
    exact ⟨rfl, hx6⟩
  · go_enter Try.func6, Try.ntmps6
    go_wp2_with fail
    refine (best_any ao len cap p k w HL.out hc hm HN.out HR.out).mono ?_
    rw [← HA.out]
    rintro e w1 ⟨ao1, cap1, rfl, hs1, hc1, hm1, hx1⟩
    simp only at hs1 hc1 ⊢
    have HS1 := Lib.hid hs1.segs
    have HX1 := Lib.hid hx1
    clear hs1 hx1
    go_wp2_with fail
    refine (rbest_any ao len cap p k w1 HL.out hc hm (HR.out.ext HX1.out)).mono ?_
    rw [← HA.out]
    rintro e w2 ⟨ao2, cap2, rfl, hs2, hc2, hm2, hx2⟩
    simp only at hs2 hc2 ⊢
    have HS2 := Lib.hid hs2.segs
    have HX2 := Lib.hid hx2
    clear hs2 hx2
    go_wp2_with fail
    refine (ssame_any ao1 ao2 cap1 cap2 l w2 (by omega) (HS1.out.ext HX2.out) HS2.out).mono ?_
    rintro e w3 ⟨rfl, hx3⟩
    have he : (er == er) = true := by simp
    have hen : (n == n) = true := by simp
    go_wp2_with fail
    refine (example_any _).mono ?_
    rintro e w6 ⟨rfl, hx6⟩
    go_wp2_with fail
    go_ret
    exact ⟨rfl, HX1.out.trans (HX2.out.trans (hx3.trans hx6))⟩

set_option maxRecDepth 100000 in
theorem modesBest_lifted (os : Os) (started : os.Started) (H : Type) (enc : TypeId × Value → H) :
    ReturnsInHanded {} Try.checked os 6 .any (Rows.modesBestSpec.pre6 enc Try.prog Try.f6 Rows.modesBestRow.domain false) (Rows.modesBestSpec.post enc Try.prog Try.f6 false true false false) := by
  refine returnsInHanded_of_change (C := Try.checked) Try.own started (by kernel_rfl) Try.func6
    (ChangeSpec.witness6 (enc := enc) (C := Try.checked) false ⟨#[], #[.slice none 0 0, .int .i64 0], []⟩ 8 (by kernel_rfl) (by kernel_rfl) (by kernel_rfl) (by kernel_rfl)) ?_
  intro W base args ds gs before hval0 hW _ _
  have hval : ∀ (j : Nat) t v, Try.f6.params[j]? = some t → args[j]? = some v → Value.okWide Try.prog W .any base t v := hval0
  have hW' := hW
  obtain ⟨p, q, hA0, hV, rfl, _, _⟩ := hW
  have hA : DataW.TrodAll enc Try.prog W 0 (fun _ => true) true Try.f6.params.toList args.toList ds p := hA0
  rw [Try.params6] at hA hval
  obtain ⟨rfl, rfl⟩ := trodVars_none hV
  clear hA0 hval0
  simp only [List.append_nil] at hW'
  have hlt : ∀ x ∈ p, x.block < W.heap.size := fun x hx => by simpa using hW'.lt x hx
  have hstay : ∀ W', Below W.heap.size W W' → _ := fun W' hb => args_stay (enc := enc) Try.laidOut hb _ _ _ _ (by kernel_rfl) hA hlt
  obtain ⟨v0, v1, d0, d1, p0, p1, rfl, rfl, rfl, h0, h1⟩ := trodAll_two hA
  obtain ⟨ao0, len0, cap0, rfl⟩ := okWide_slice Try.underlying22 (hval 0 22 v0 rfl rfl)
  obtain ⟨fuel0, hf0⟩ := h0
  obtain ⟨xs0, ao0', len0', cap0', hv0, hl0, hc0, hm0, hn0, hr0⟩ := view_byts Try.underlying22 Try.underlying5 Try.cellsByte hf0
  cases hv0
  obtain ⟨x1, rfl, rfl, rfl, wx1⟩ := open_int Try.underlying3 (hval 1 3 v1 rfl rfl) h1
  refine (modesBest_walk ao0 len0 cap0 xs0 x1 W (by rw [length_byts] at hl0; exact hl0) hc0 hm0 hn0 hr0 (wf_i64_bd wx1)).mono fun e W' ⟨he, hb⟩ => ?_
  subst he
  exact ⟨_, rfl, _, _, _, [], _, [], hW', trodAll_mk1 (shut_bool Try.underlying4 _), hstay W' hb, rfl, hb.frame _, fun h => by cases h⟩

theorem modesBest_holds : Rows.ModesBestSaid :=
  OpenClaim.holds_of_wide 6 Try.f6 rfl rfl rfl rfl rfl rfl rfl ⟨rfl, rfl, rfl, rfl, rfl⟩ rfl rfl rfl rfl rfl (by kernel_rfl) Try.func6 (by kernel_rfl)
    (of_decide_eq_true (by kernel_rfl)) (by unfold Func.isWrapper; first | (rw [if_pos (by decide +kernel)]; kernel_rfl) | (rw [if_neg (by decide +kernel)]; exact ⟨rfl, rfl⟩))
    (fun os started H enc _ => modesBest_lifted os started H enc)


end Go.Proofs.Ythebfpolijajgaa
