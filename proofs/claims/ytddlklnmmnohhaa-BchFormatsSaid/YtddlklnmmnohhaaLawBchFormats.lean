/-
  For every input BchFormats returns true, and each argument reads afterwards as it read before (Rows.BchFormatsSaid).
  No condition.
-/
import Derived.Test.YtddlklnmmnohhaaBchBase
import Derived.Test.YtddlklnmmnohhaaBchJ
namespace Go.Proofs.Ytddlklnmmnohhaa
open Go.RowKit Go.Bs Go.ChangeShapes Go.WideShapes Go.ChangeAt Go.Joins Go.Bch

set_option maxRecDepth 20000 in
set_option maxHeartbeats 1000000 in
theorem bchFormats_walk (l m x : Int) (w : World) (_ : -9223372036854775808 ≤ l ∧ l ≤ 9223372036854775807) (_ : -9223372036854775808 ≤ m ∧ m ≤ 9223372036854775807) (_ : -9223372036854775808 ≤ x ∧ x ≤ 9223372036854775807) :
    Calls Try.prog 8 #[.int .i64 l, .int .i64 m, .int .i64 x] w fun e w' => e = .returned (.bool true) ∧ Ext w w' := by
  obtain ⟨r, hA⟩ : ∃ r, r = fmtRes l m := ⟨_, rfl⟩
  have HA := Lib.hid hA
  obtain ⟨q, hB⟩ : ∃ q, q = pfRes x := ⟨_, rfl⟩
  have HB := Lib.hid hB
  clear hA hB
  obtain ⟨a, b⟩ := r
  obtain ⟨c, d, f, g⟩ := q
  go_enter Try.func8, Try.ntmps8
  go_wp2_with fail
  refine (format_any _ _ _).mono ?_
  rw [← HA.out]
  rintro e w' ⟨rfl, rfl⟩
  simp only [two]
  go_wp2_with fail
  refine (rformat_any _ _ _).mono ?_
  rw [← HA.out]
  rintro e w' ⟨rfl, rfl⟩
  simp only [two]
  go_wp2_with fail
  refine (parseFormat_any _ _).mono ?_
  rw [← HB.out]
  rintro e w1 ⟨rfl, HE⟩
  simp only [four]
  go_wp2_with fail
  refine (rparseFormat_any _ _).mono ?_
  rw [← HB.out]
  rintro e w' ⟨rfl, rfl⟩
  simp only [four]
  go_wp2_with fail
  refine (examples_any _).mono ?_
  rintro e w' ⟨rfl, rfl⟩
  go_wp2_with fail
  go_ret
  exact ⟨rfl, HE⟩

set_option maxRecDepth 100000 in
theorem bchFormats_lifted (os : Os) (started : os.Started) (H : Type) (enc : TypeId × Value → H) :
    ReturnsInHanded {} Try.checked os 8 .any (Rows.bchFormatsSpec.pre6 enc Try.prog Try.f8 Rows.bchFormatsRow.domain false) (Rows.bchFormatsSpec.post enc Try.prog Try.f8 false true false false) := by
  refine returnsInHanded_of_change (C := Try.checked) Try.own started (by kernel_rfl) Try.func8
    (ChangeSpec.witness6 (enc := enc) (C := Try.checked) false ⟨#[], #[.int .i64 0, .int .i64 0, .int .i64 0], []⟩ 8 (by kernel_rfl) (by kernel_rfl) (by kernel_rfl) (by kernel_rfl)) ?_
  intro W base args ds gs before hval0 hW _ _
  have hval : ∀ (j : Nat) t v, Try.f8.params[j]? = some t → args[j]? = some v → Value.okWide Try.prog W .any base t v := hval0
  have hW' := hW
  obtain ⟨p, q, hA0, hV, rfl, _, _⟩ := hW
  have hA : DataW.TrodAll enc Try.prog W 0 (fun _ => true) true Try.f8.params.toList args.toList ds p := hA0
  rw [Try.params8] at hA hval
  obtain ⟨rfl, rfl⟩ := trodVars_none hV
  clear hA0 hval0
  simp only [List.append_nil] at hW'
  have hlt : ∀ x ∈ p, x.block < W.heap.size := fun x hx => by simpa using hW'.lt x hx
  have hstay : ∀ W', Below W.heap.size W W' → _ := fun W' hb => args_stay (enc := enc) Try.laidOut hb _ _ _ _ (by kernel_rfl) hA hlt
  obtain ⟨v0, v1, v2, d0, d1, d2, p0, p1, p2, rfl, rfl, rfl, h0, h1, h2⟩ := trodAll_three hA
  obtain ⟨x0, rfl, rfl, rfl, wx0⟩ := open_int Try.underlying36 (hval 0 36 v0 rfl rfl) h0
  obtain ⟨x1, rfl, rfl, rfl, wx1⟩ := open_int Try.underlying3 (hval 1 3 v1 rfl rfl) h1
  obtain ⟨x2, rfl, rfl, rfl, wx2⟩ := open_int Try.underlying3 (hval 2 3 v2 rfl rfl) h2
  refine (bchFormats_walk x0 x1 x2 W (wf_i64_bd wx0) (wf_i64_bd wx1) (wf_i64_bd wx2)).mono fun e W' ⟨he, hb⟩ => ?_
  subst he
  exact ⟨_, rfl, _, _, _, [], _, [], hW', trodAll_mk1 (shut_bool Try.underlying4 _), hstay W' hb, rfl, hb.frame _, fun h => by cases h⟩

theorem bchFormats_holds : Rows.BchFormatsSaid :=
  OpenClaim.holds_of_wide 8 Try.f8 rfl rfl rfl rfl rfl rfl rfl ⟨rfl, rfl, rfl, rfl, rfl⟩ rfl rfl rfl rfl rfl (by kernel_rfl) Try.func8 (by kernel_rfl)
    (of_decide_eq_true (by kernel_rfl)) (by unfold Func.isWrapper; first | (rw [if_pos (by decide +kernel)]; kernel_rfl) | (rw [if_neg (by decide +kernel)]; exact ⟨rfl, rfl⟩))
    (fun os started H enc _ => bchFormats_lifted os started H enc)


end Go.Proofs.Ytddlklnmmnohhaa
