/-
  For every input ModesClasses returns true, and each argument reads afterwards as it read before (Rows.ModesClassesSaid).
  No condition.
-/
import Derived.Test.YthebfpolijajgaaModeBase
namespace Go.Proofs.Ythebfpolijajgaa
open Go.RowKit Go.Bs Go.ChangeShapes Go.WideShapes Go.ChangeAt Go.Joins Go.Mode

set_option maxRecDepth 20000 in
set_option maxHeartbeats 1000000 in
theorem modesClasses_walk (v m k x : Int) (w : World) (_ : -9223372036854775808 ≤ v ∧ v ≤ 9223372036854775807) (_ : -9223372036854775808 ≤ m ∧ m ≤ 9223372036854775807) (_ : -9223372036854775808 ≤ k ∧ k ≤ 9223372036854775807) (hx : 0 ≤ x ∧ x ≤ 255) :
    Calls Try.prog 12 #[.int .i64 v, .int .i64 m, .int .i64 k, .int .u8 x] w fun e w' => e = .returned (.bool true) ∧ Ext w w' := by
  obtain ⟨c, rfl⟩ := u8_of x hx
  clear hx
  obtain ⟨A, hA⟩ : ∃ r, r = clRes v := ⟨_, rfl⟩
  have HA := Lib.hid hA
  obtain ⟨B, hB⟩ : ∃ r, r = ctRes m k := ⟨_, rfl⟩
  have HB := Lib.hid hB
  clear hA hB
  obtain ⟨a1, a2⟩ := A
  obtain ⟨b1, b2⟩ := B
  go_enter Try.func12, Try.ntmps12
  go_wp2_with fail
  refine (class_any _ _).mono ?_
  rw [← HA.out]
  rintro e w1 ⟨rfl, rfl⟩
  simp only [two]
  go_wp2_with fail
  refine (rclass_any _ _).mono ?_
  rw [← HA.out]
  rintro e w1 ⟨rfl, rfl⟩
  simp only [two]
  go_wp2_with fail
  refine (countBits_any _ _ _).mono ?_
  rw [← HB.out]
  rintro e w1 ⟨rfl, rfl⟩
  simp only [two]
  go_wp2_with fail
  refine (rcountBits_any _ _ _).mono ?_
  rw [← HB.out]
  rintro e w1 ⟨rfl, rfl⟩
  simp only [two]
  go_wp2_with fail
  refine (fits_any _ c _).mono ?_
  rintro e w1 ⟨rfl, rfl⟩
  go_wp2_with fail
  refine (rfits_any _ c _).mono ?_
  rintro e w1 ⟨rfl, rfl⟩
  have hb : (fitsB m c == fitsB m c) = true := by simp
  go_wp2_with fail
  refine (example_any _).mono ?_
  rintro e w6 ⟨rfl, hx6⟩
  go_wp2_with fail
  go_ret
  exact ⟨rfl, hx6⟩

set_option maxRecDepth 100000 in
theorem modesClasses_lifted (os : Os) (started : os.Started) (H : Type) (enc : TypeId × Value → H) :
    ReturnsInHanded {} Try.checked os 12 .any (Rows.modesClassesSpec.pre6 enc Try.prog Try.f12 Rows.modesClassesRow.domain false) (Rows.modesClassesSpec.post enc Try.prog Try.f12 false true false false) := by
  refine returnsInHanded_of_change (C := Try.checked) Try.own started (by kernel_rfl) Try.func12
    (ChangeSpec.witness6 (enc := enc) (C := Try.checked) false ⟨#[], #[.int .i64 0, .int .i64 0, .int .i64 0, .int .u8 0], []⟩ 8 (by kernel_rfl) (by kernel_rfl) (by kernel_rfl) (by kernel_rfl)) ?_
  intro W base args ds gs before hval0 hW _ _
  have hval : ∀ (j : Nat) t v, Try.f12.params[j]? = some t → args[j]? = some v → Value.okWide Try.prog W .any base t v := hval0
  have hW' := hW
  obtain ⟨p, q, hA0, hV, rfl, _, _⟩ := hW
  have hA : DataW.TrodAll enc Try.prog W 0 (fun _ => true) true Try.f12.params.toList args.toList ds p := hA0
  rw [Try.params12] at hA hval
  obtain ⟨rfl, rfl⟩ := trodVars_none hV
  clear hA0 hval0
  simp only [List.append_nil] at hW'
  have hlt : ∀ x ∈ p, x.block < W.heap.size := fun x hx => by simpa using hW'.lt x hx
  have hstay : ∀ W', Below W.heap.size W W' → _ := fun W' hb => args_stay (enc := enc) Try.laidOut hb _ _ _ _ (by kernel_rfl) hA hlt
  obtain ⟨v0, v1, v2, v3, d0, d1, d2, d3, p0, p1, p2, p3, rfl, rfl, rfl, h0, h1, h2, h3⟩ := trodAll_four hA
  obtain ⟨x0, rfl, rfl, rfl, wx0⟩ := open_int Try.underlying3 (hval 0 3 v0 rfl rfl) h0
  obtain ⟨x1, rfl, rfl, rfl, wx1⟩ := open_int Try.underlying3 (hval 1 3 v1 rfl rfl) h1
  obtain ⟨x2, rfl, rfl, rfl, wx2⟩ := open_int Try.underlying3 (hval 2 3 v2 rfl rfl) h2
  obtain ⟨x3, rfl, rfl, rfl, wx3⟩ := open_int Try.underlying5 (hval 3 5 v3 rfl rfl) h3
  refine (modesClasses_walk x0 x1 x2 x3 W (wf_i64_bd wx0) (wf_i64_bd wx1) (wf_i64_bd wx2) (wf_u8_bd wx3)).mono fun e W' ⟨he, hb⟩ => ?_
  subst he
  exact ⟨_, rfl, _, _, _, [], _, [], hW', trodAll_mk1 (shut_bool Try.underlying4 _), hstay W' hb, rfl, hb.frame _, fun h => by cases h⟩

theorem modesClasses_holds : Rows.ModesClassesSaid :=
  OpenClaim.holds_of_wide 12 Try.f12 rfl rfl rfl rfl rfl rfl rfl ⟨rfl, rfl, rfl, rfl, rfl⟩ rfl rfl rfl rfl rfl (by kernel_rfl) Try.func12 (by kernel_rfl)
    (of_decide_eq_true (by kernel_rfl)) (by unfold Func.isWrapper; first | (rw [if_pos (by decide +kernel)]; kernel_rfl) | (rw [if_neg (by decide +kernel)]; exact ⟨rfl, rfl⟩))
    (fun os started H enc _ => modesClasses_lifted os started H enc)


end Go.Proofs.Ythebfpolijajgaa
