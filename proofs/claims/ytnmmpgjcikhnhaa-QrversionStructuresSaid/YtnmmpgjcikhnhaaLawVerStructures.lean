/-
  For every input QrversionStructures returns true, and each argument reads afterwards as it read before (Rows.QrversionStructuresSaid).
  No condition.
-/
import Derived.Test.YtnmmpgjcikhnhaaVerBase
namespace Go.Proofs.Ytnmmpgjcikhnhaa
open Go.RowKit Go.Bs Go.ChangeShapes Go.WideShapes Go.ChangeAt Go.Joins Go.Qrv

theorem four_cells {w : World} {g : Nat} {x0 x1 x2 x3 : Value} {t : TypeId} (h : w.heap[g]? = some (.cells #[x0, x1, x2, x3] t (0, 0))) :
    w.cell? ⟨g, 0, none⟩ = some x0 ∧ w.cell? ⟨g, 1, none⟩ = some x1 ∧ w.cell? ⟨g, 2, none⟩ = some x2 ∧ w.cell? ⟨g, 3, none⟩ = some x3 :=
  ⟨by rw [cell_of_row _ _ _ _ _ _ h]; rfl, by rw [cell_of_row _ _ _ _ _ _ h]; rfl, by rw [cell_of_row _ _ _ _ _ _ h]; rfl, by rw [cell_of_row _ _ _ _ _ _ h]; rfl⟩

set_option maxRecDepth 20000 in
set_option maxHeartbeats 1000000 in
theorem qrversionStructures_walk (v l : Int) (w : World) (_ : -9223372036854775808 ≤ v ∧ v ≤ 9223372036854775807) (_ : -9223372036854775808 ≤ l ∧ l ≤ 9223372036854775807) :
    Calls Try.prog 4 #[.int .i64 v, .int .i64 l] w fun e w' => e = .returned (.bool true) ∧ Ext w w' := by
  obtain ⟨r, hA⟩ : ∃ r, r = stRes v l := ⟨_, rfl⟩
  have HA := Lib.hid hA
  obtain ⟨q, hB⟩ : ∃ q, q = cpRes v l := ⟨_, rfl⟩
  have HB := Lib.hid hB
  clear hA hB
  obtain ⟨⟨a, b, c, d⟩, f⟩ := r
  obtain ⟨g, h⟩ := q
  go_enter Try.func4, Try.ntmps4
  go_wp2_with fail
  refine (structure_any _ _ _).mono ?_
  rw [← HA.out]
  rintro e w1 ⟨rfl, hx1⟩
  simp only [blkV]
  go_wp2_with fail
  refine (rstructure_any _ _ _).mono ?_
  rw [← HA.out]
  rintro e w2 ⟨rfl, hx2⟩
  simp only [blkV]
  have hb1 := hx2.new
  go_wp2_with fail
  refine (capacity_any _ _ _).mono ?_
  rw [← HB.out]
  rintro e w3 ⟨rfl, hx3⟩
  simp only [two]
  have hb2 := hx3.new
  replace hb1 := ((Ext.alloc _ _).trans hx3).old hb1
  go_wp2_with fail
  refine (rcapacity_any _ _ _).mono ?_
  rw [← HB.out]
  rintro e w4 ⟨rfl, hx4⟩
  simp only [two]
  obtain ⟨y0, y1, y2, y3⟩ := four_cells (hx4.old hb1)
  obtain ⟨z0, z1, z2, z3⟩ := four_cells (hx4.old hb2)
  clear hb1 hb2
  go_wp2_with fail
  refine (alive_any _).mono ?_
  rintro e w6 ⟨rfl, hx6⟩
  go_wp2_with fail
  go_ret
  exact ⟨rfl, hx1.trans ((Ext.alloc _ _).trans (hx2.trans ((Ext.alloc _ _).trans (hx3.trans (hx4.trans hx6)))))⟩

set_option maxRecDepth 100000 in
theorem qrversionStructures_lifted (os : Os) (started : os.Started) (H : Type) (enc : TypeId × Value → H) :
    ReturnsInHanded {} Try.checked os 4 .any (Rows.qrversionStructuresSpec.pre6 enc Try.prog Try.f4 Rows.qrversionStructuresRow.domain false) (Rows.qrversionStructuresSpec.post enc Try.prog Try.f4 false true false false) := by
  refine returnsInHanded_of_change (C := Try.checked) Try.own started (by kernel_rfl) Try.func4
    (ChangeSpec.witness6 (enc := enc) (C := Try.checked) false ⟨#[], #[.int .i64 0, .int .i64 0], []⟩ 8 (by kernel_rfl) (by kernel_rfl) (by kernel_rfl) (by kernel_rfl)) ?_
  intro W base args ds gs before hval0 hW _ _
  have hval : ∀ (j : Nat) t v, Try.f4.params[j]? = some t → args[j]? = some v → Value.okWide Try.prog W .any base t v := hval0
  have hW' := hW
  obtain ⟨p, q, hA0, hV, rfl, _, _⟩ := hW
  have hA : DataW.TrodAll enc Try.prog W 0 (fun _ => true) true Try.f4.params.toList args.toList ds p := hA0
  rw [Try.params4] at hA hval
  obtain ⟨rfl, rfl⟩ := trodVars_none hV
  clear hA0 hval0
  simp only [List.append_nil] at hW'
  have hlt : ∀ x ∈ p, x.block < W.heap.size := fun x hx => by simpa using hW'.lt x hx
  have hstay : ∀ W', Below W.heap.size W W' → _ := fun W' hb => args_stay (enc := enc) Try.laidOut hb _ _ _ _ (by kernel_rfl) hA hlt
  obtain ⟨v0, v1, d0, d1, p0, p1, rfl, rfl, rfl, h0, h1⟩ := trodAll_two hA
  obtain ⟨x0, rfl, rfl, rfl, wx0⟩ := open_int Try.underlying3 (hval 0 3 v0 rfl rfl) h0
  obtain ⟨x1, rfl, rfl, rfl, wx1⟩ := open_int Try.underlying33 (hval 1 33 v1 rfl rfl) h1
  refine (qrversionStructures_walk x0 x1 W (wf_i64_bd wx0) (wf_i64_bd wx1)).mono fun e W' ⟨he, hb⟩ => ?_
  subst he
  exact ⟨_, rfl, _, _, _, [], _, [], hW', trodAll_mk1 (shut_bool Try.underlying4 _), hstay W' hb, rfl, hb.frame _, fun h => by cases h⟩

theorem qrversionStructures_holds : Rows.QrversionStructuresSaid :=
  OpenClaim.holds_of_wide 4 Try.f4 rfl rfl rfl rfl rfl rfl rfl ⟨rfl, rfl, rfl, rfl, rfl⟩ rfl rfl rfl rfl rfl (by kernel_rfl) Try.func4 (by kernel_rfl)
    (of_decide_eq_true (by kernel_rfl)) (by unfold Func.isWrapper; first | (rw [if_pos (by decide +kernel)]; kernel_rfl) | (rw [if_neg (by decide +kernel)]; exact ⟨rfl, rfl⟩))
    (fun os started H enc _ => qrversionStructures_lifted os started H enc)


end Go.Proofs.Ytnmmpgjcikhnhaa
