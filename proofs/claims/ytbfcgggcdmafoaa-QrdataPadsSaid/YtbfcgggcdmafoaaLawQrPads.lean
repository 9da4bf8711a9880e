/-
  For every input QrdataPads returns true, and each argument reads afterwards as it read before (Rows.QrdataPadsSaid).
  No condition.
-/
import Derived.Test.YtbfcgggcdmafoaaQrBase
namespace Go.Proofs.Ytbfcgggcdmafoaa
open Go.RowKit Go.Bs Go.ChangeShapes Go.WideShapes Go.ChangeAt Go.Joins Go.Qr

theorem padRes_len (xs : List Bool) (n : Int) : (padRes xs n).1.length ≤ 4096 := by
  unfold padRes
  split
  · simp
  · split
    · simp
    · simp only
      rw [length_padW xs n.toNat (by omega)]
      omega

set_option maxRecDepth 20000 in
set_option maxHeartbeats 1000000 in
theorem qrdataPads_walk (ao : Option Addr) (len cap : Nat) (xs : List Bool) (n : Int) (w : World) (hl : xs.length = len) (hcap : len ≤ cap) (hmax : cap ≤ 9223372036854775807) (hno : ao = none → cap = 0) (hr : Row w ao (bools xs)) (_ : -9223372036854775808 ≤ n ∧ n ≤ 9223372036854775807) :
    Calls Try.prog 4 #[.slice ao len cap, .int .i64 n] w fun e w' => e = .returned (.bool true) ∧ Ext w w' := by
  have HP := Lib.hid (pad_any ao len cap xs n w hl hcap hmax hno hr)
  have HQ := fun W (hx : Ext w W) => Lib.hid (rpad_any ao len cap xs n W hl hcap hmax hno (hr.ext hx))
  have hlen := padRes_len xs n
  obtain ⟨R, E, hR⟩ : ∃ R E, padRes xs n = (R, E) := ⟨_, _, rfl⟩
  rw [hR] at hlen HP
  simp only [hR] at HQ hlen
  clear hR hl
  go_enter Try.func4, Try.ntmps4
  go_wp2_with fail
  refine HP.out.mono ?_
  intro e w1 hret
  obtain ⟨so, sc, rfl, hs1, hc1, hm1, hn1, hx1⟩ := hret.ints
  clear hret
  have HX1 := Lib.hid hx1
  have HS1 := Lib.hid hs1
  clear hx1 hs1
  go_wp2_with fail
  refine (HQ w1 HX1.out).out.mono ?_
  intro e w2 hret
  obtain ⟨ro, rc, rfl, hr2, hc2, hm2, hn2, hx2⟩ := hret.ints
  clear hret
  have HX2 := Lib.hid (HX1.out.trans hx2)
  have HS2 := Lib.hid (HS1.out.ext hx2)
  have HR2 := Lib.hid hr2
  clear hx2 hr2 HS1 HX1
  go_wp2_with fail
  refine (lsame_any so ro _ sc _ rc R R _ rfl rfl (by omega) HS2.out HR2.out).mono ?_
  rw [show (R == R) = true from by simp]
  rintro e w3 ⟨rfl, hx3⟩
  go_wp2_with fail
  refine (examples_any _).mono ?_
  rintro e w4 ⟨rfl, hx4⟩
  go_wp2_with fail
  go_ret
  exact ⟨rfl, HX2.out.trans (hx3.trans hx4)⟩

set_option maxRecDepth 100000 in
theorem qrdataPads_lifted (os : Os) (started : os.Started) (H : Type) (enc : TypeId × Value → H) :
    ReturnsInHanded {} Try.checked os 4 .any (Rows.qrdataPadsSpec.pre6 enc Try.prog Try.f4 Rows.qrdataPadsRow.domain false) (Rows.qrdataPadsSpec.post enc Try.prog Try.f4 false true false false) := by
  refine returnsInHanded_of_change (C := Try.checked) Try.own started (by kernel_rfl) Try.func4
    (ChangeSpec.witness6 (enc := enc) (C := Try.checked) false ⟨#[], #[.slice none 0 0, .int .i64 0], []⟩ 8 (by kernel_rfl) (by kernel_rfl) (by kernel_rfl) (by kernel_rfl)) ?_
  intro W base args ds gs before hval0 hW _ _
  have hval : ∀ (j : Nat) t v, Try.f4.params[j]? = some t → args[j]? = some v → Value.okWide Try.prog W .any base t v := hval0
  have hW' := hW
  obtain ⟨p, q, hA0, hV, rfl, _, _⟩ := hW
  have hA : DataW.TrodAll enc Try.prog W 0 (fun _ => true) true Try.f4.params.toList args.toList ds p := hA0
  rw [Try.params4] at hA hval
  obtain ⟨rfl, rfl⟩ := trodVars_none hV
  clear hA0 hval0
  simp only [List.append_nil] at hW'
  have hlt : ∀ x ∈ p, x.block < W.heap.size := fun x hx => by simpa using hW'.lt x hx
  have hstay : ∀ W', Below W.heap.size W W' → _ := fun W' hb => args_stay (enc := enc) Try.laidOut hb _ _ _ _ (by kernel_rfl) hA hlt
  obtain ⟨v0, v1, d0, d1, p0, p1, rfl, rfl, rfl, h0, h1⟩ := trodAll_two hA
  obtain ⟨ao0, len0, cap0, rfl⟩ := okWide_slice Try.underlying24 (hval 0 24 v0 rfl rfl)
  obtain ⟨fuel0, hf0⟩ := h0
  obtain ⟨xs0, ao0', len0', cap0', hv0, hl0, hc0, hm0, hn0, hr0⟩ := view_bools Try.underlying24 Try.underlying4 Try.cellsBool hf0
  cases hv0
  obtain ⟨x1, rfl, rfl, rfl, wx1⟩ := open_int Try.underlying3 (hval 1 3 v1 rfl rfl) h1
  refine (qrdataPads_walk ao0 len0 cap0 xs0 x1 W (by rw [length_bools] at hl0; exact hl0) hc0 hm0 hn0 hr0 (wf_i64_bd wx1)).mono fun e W' ⟨he, hb⟩ => ?_
  subst he
  exact ⟨_, rfl, _, _, _, [], _, [], hW', trodAll_mk1 (shut_bool Try.underlying4 _), hstay W' hb, rfl, hb.frame _, fun h => by cases h⟩

theorem qrdataPads_holds : Rows.QrdataPadsSaid :=
  OpenClaim.holds_of_wide 4 Try.f4 rfl rfl rfl rfl rfl rfl rfl ⟨rfl, rfl, rfl, rfl, rfl⟩ rfl rfl rfl rfl rfl (by kernel_rfl) Try.func4 (by kernel_rfl)
    (of_decide_eq_true (by kernel_rfl)) (by unfold Func.isWrapper; first | (rw [if_pos (by decide +kernel)]; kernel_rfl) | (rw [if_neg (by decide +kernel)]; exact ⟨rfl, rfl⟩))
    (fun os started H enc _ => qrdataPads_lifted os started H enc)


end Go.Proofs.Ytbfcgggcdmafoaa
