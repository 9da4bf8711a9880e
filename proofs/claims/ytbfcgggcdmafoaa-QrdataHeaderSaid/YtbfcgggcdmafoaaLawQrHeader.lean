/-
  For every input QrdataHeader returns true, and each argument reads afterwards as it read before (Rows.QrdataHeaderSaid).
  No condition.
-/
import Derived.Test.YtbfcgggcdmafoaaQrBase
namespace Go.Proofs.Ytbfcgggcdmafoaa
open Go.RowKit Go.Bs Go.ChangeShapes Go.WideShapes Go.ChangeAt Go.Joins Go.Qr

set_option maxRecDepth 20000 in
set_option maxHeartbeats 1000000 in
theorem qrdataHeader_walk (i t p : Int) (w : World) (hi : -9223372036854775808 ≤ i ∧ i ≤ 9223372036854775807) (ht : -9223372036854775808 ≤ t ∧ t ≤ 9223372036854775807) (hp : -9223372036854775808 ≤ p ∧ p ≤ 9223372036854775807) :
    Calls Try.prog 3 #[.agg #[.int .i64 i, .int .i64 t, .int .i64 p]] w fun e w' => e = .returned (.bool true) ∧ Ext w w' := by
  obtain ⟨hb, E, hR⟩ : ∃ hb E, hdRes i t p = (hb, E) := ⟨_, _, rfl⟩
  have HR := Lib.hid hR
  have hlen : hb.length ≤ 20 := by have := hd_len i t p; rw [hR] at this; exact this
  have HI := Lib.hid hi
  have HT := Lib.hid ht
  have HP := Lib.hid hp
  clear hR hi ht hp
  have HA : Hid (Row (w.alloc (.cells #[.int .i64 i, .int .i64 t, .int .i64 p] 23)) (some ⟨w.heap.size, 0, none⟩) [.int .i64 i, .int .i64 t, .int .i64 p]) := Row.lit w [.int .i64 i, .int .i64 t, .int .i64 p] 23
  go_enter Try.func3, Try.ntmps3
  go_wp2_with fail
  refine (header_any i t p _ HI.out HT.out HP.out).mono ?_
  rw [HR.out]
  rintro e w1 ⟨s1, rfl, hown1, hx1⟩
  obtain ⟨so, sc, rfl, hso, hsm, _, hsr⟩ := own_row hown1
  rw [length_bools] at hso ⊢
  have HA1 := Lib.hid (HA.out.ext hx1)
  have HX1 := Lib.hid ((Ext.alloc w _).trans hx1)
  have HS1 := Lib.hid hsr
  clear hown1 HA hsr hx1
  go_wp2_with ((with_reducible show wpList _ _ _ (⟨some 13, _, _, _, _, _⟩ :: _) _ _); refine wpList_loadAgg rfl 23 _ rfl _ Try.underlying23 rfl _ rfl [.int .i64 i, .int .i64 t, .int .i64 p] HA1.out (by kernel_rfl) ?_)
  refine (rheader_any i t p _ HI.out HT.out HP.out).mono ?_
  rw [HR.out]
  rintro e w2 ⟨s2, rfl, hown2, hx2⟩
  obtain ⟨ro, rc, rfl, hro, hrm, _, hrr⟩ := own_row hown2
  rw [length_bools] at hro ⊢
  have HX2 := Lib.hid (HX1.out.trans hx2)
  have HS2 := Lib.hid (HS1.out.ext hx2)
  have HR2 := Lib.hid hrr
  clear hown2 HA1 hrr hx2 HX1 HS1
  go_wp2_with fail
  refine (lbits_any so ro _ sc _ rc hb hb _ rfl rfl (by omega) HS2.out HR2.out).mono ?_
  rw [show (hb == hb) = true from by simp]
  rintro e w3 ⟨rfl, hx3⟩
  go_wp2_with fail
  refine (examples_any _).mono ?_
  rintro e w4 ⟨rfl, hx4⟩
  go_wp2_with fail
  go_ret
  exact ⟨rfl, HX2.out.trans (hx3.trans hx4)⟩

set_option maxRecDepth 100000 in
theorem qrdataHeader_lifted (os : Os) (started : os.Started) (H : Type) (enc : TypeId × Value → H) :
    ReturnsInHanded {} Try.checked os 3 .any (Rows.qrdataHeaderSpec.pre6 enc Try.prog Try.f3 Rows.qrdataHeaderRow.domain false) (Rows.qrdataHeaderSpec.post enc Try.prog Try.f3 false true false false) := by
  refine returnsInHanded_of_change (C := Try.checked) Try.own started (by kernel_rfl) Try.func3
    (ChangeSpec.witness6 (enc := enc) (C := Try.checked) false ⟨#[], #[.agg #[.int .i64 0, .int .i64 0, .int .i64 0]], []⟩ 8 (by kernel_rfl) (by kernel_rfl) (by kernel_rfl) (by kernel_rfl)) ?_
  intro W base args ds gs before hval0 hW _ _
  have hval : ∀ (j : Nat) t v, Try.f3.params[j]? = some t → args[j]? = some v → Value.okWide Try.prog W .any base t v := hval0
  have hW' := hW
  obtain ⟨p, q, hA0, hV, rfl, _, _⟩ := hW
  have hA : DataW.TrodAll enc Try.prog W 0 (fun _ => true) true Try.f3.params.toList args.toList ds p := hA0
  rw [Try.params3] at hA hval
  obtain ⟨rfl, rfl⟩ := trodVars_none hV
  clear hA0 hval0
  simp only [List.append_nil] at hW'
  have hlt : ∀ x ∈ p, x.block < W.heap.size := fun x hx => by simpa using hW'.lt x hx
  have hstay : ∀ W', Below W.heap.size W W' → _ := fun W' hb => args_stay (enc := enc) Try.laidOut hb _ _ _ _ (by kernel_rfl) hA hlt
  obtain ⟨v0, d0, rfl, rfl, h0⟩ := trodAll_one hA
  obtain ⟨c0_0, c0_1, c0_2, y0_0, y0_1, y0_2, m0, rfl, rfl, rfl, hy0_0, hy0_1, hy0_2⟩ := open_agg3 Try.underlying23 (by kernel_rfl) (by kernel_rfl) (hval 0 23 v0 rfl rfl) h0
  obtain ⟨x0, ex0, _, wx0⟩ := DataW.trod_int Try.underlying3 hy0_0
  simp at ex0
  subst ex0
  obtain ⟨x1, ex1, _, wx1⟩ := DataW.trod_int Try.underlying3 hy0_1
  simp at ex1
  subst ex1
  obtain ⟨x2, ex2, _, wx2⟩ := DataW.trod_int Try.underlying3 hy0_2
  simp at ex2
  subst ex2
  refine (qrdataHeader_walk x0 x1 x2 W (wf_i64_bd wx0) (wf_i64_bd wx1) (wf_i64_bd wx2)).mono fun e W' ⟨he, hb⟩ => ?_
  subst he
  exact ⟨_, rfl, _, _, _, [], _, [], hW', trodAll_mk1 (shut_bool Try.underlying4 _), hstay W' hb, rfl, hb.frame _, fun h => by cases h⟩

theorem qrdataHeader_holds : Rows.QrdataHeaderSaid :=
  OpenClaim.holds_of_wide 3 Try.f3 rfl rfl rfl rfl rfl rfl rfl ⟨rfl, rfl, rfl, rfl, rfl⟩ rfl rfl rfl rfl rfl (by kernel_rfl) Try.func3 (by kernel_rfl)
    (of_decide_eq_true (by kernel_rfl)) (by unfold Func.isWrapper; first | (rw [if_pos (by decide +kernel)]; kernel_rfl) | (rw [if_neg (by decide +kernel)]; exact ⟨rfl, rfl⟩))
    (fun os started H enc _ => qrdataHeader_lifted os started H enc)


end Go.Proofs.Ytbfcgggcdmafoaa
