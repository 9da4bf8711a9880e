/-
  For every input QrversionSizes returns true, and each argument reads afterwards as it read before (Rows.QrversionSizesSaid).
  No condition.
-/
import Derived.Test.YtnmmpgjcikhnhaaVerBase
namespace Go.Proofs.Ytnmmpgjcikhnhaa
open Go.RowKit Go.Bs Go.ChangeShapes Go.WideShapes Go.ChangeAt Go.Joins Go.Qrv

theorem alRes_len (v : Int) : (alRes v).1.length ≤ 7 := by
  by_cases hv : inV v
  · obtain ⟨n, rfl, h1, h2⟩ := inV_nat hv
    rw [alRes_1 hv]
    have := cenRow_length n h1 h2
    unfold cenRow at this
    rw [List.length_append] at this
    show (al n).length ≤ 7
    omega
  · rw [alRes_2 hv]; exact Nat.zero_le _

set_option maxRecDepth 20000 in
set_option maxHeartbeats 1000000 in
theorem qrversionSizes_walk (v : Int) (w : World) (_ : -9223372036854775808 ≤ v ∧ v ≤ 9223372036854775807) :
    Calls Try.prog 3 #[.int .i64 v] w fun e w' => e = .returned (.bool true) ∧ Ext w w' := by
  obtain ⟨r, hA⟩ : ∃ r, r = szRes v := ⟨_, rfl⟩
  have HA := Lib.hid hA
  obtain ⟨q, hB⟩ : ∃ q, q = alRes v := ⟨_, rfl⟩
  have HB := Lib.hid hB
  obtain ⟨p, hC⟩ : ∃ p, p = cwRes v := ⟨_, rfl⟩
  have HC := Lib.hid hC
  have hlen := alRes_len v
  rw [← hB] at hlen
  clear hA hB hC
  obtain ⟨a, b⟩ := r
  obtain ⟨l, d⟩ := q
  obtain ⟨f, g, h⟩ := p
  simp only at hlen
  go_enter Try.func3, Try.ntmps3
  go_wp2_with fail
  refine (size_any _ _).mono ?_
  rw [← HA.out]
  rintro e w' ⟨rfl, rfl⟩
  simp only [two]
  go_wp2_with fail
  refine (rsize_any _ _).mono ?_
  rw [← HA.out]
  rintro e w' ⟨rfl, rfl⟩
  simp only [two]
  go_wp2_with fail
  refine (aligns_any _ _).mono ?_
  rw [← HB.out]
  intro e w1 hret
  obtain ⟨b1, c1, rfl, hr1, _, _, _, hx1⟩ := hret.ints
  clear hret
  go_wp2_with fail
  refine (raligns_any _ _).mono ?_
  rw [← HB.out]
  intro e w2 hret
  obtain ⟨b2, c2, rfl, hr2, _, _, _, hx2⟩ := hret.ints
  clear hret
  replace hr1 := hr1.ext hx2
  go_wp2_with fail
  refine (codewords_any _ _).mono ?_
  rw [← HC.out]
  rintro e w3 ⟨rfl, hx3⟩
  simp only [three]
  replace hr1 := hr1.ext hx3
  replace hr2 := hr2.ext hx3
  go_wp2_with fail
  refine (rcodewords_any _ _).mono ?_
  rw [← HC.out]
  rintro e w4 ⟨rfl, hx4⟩
  simp only [three]
  replace hr1 := hr1.ext hx4
  replace hr2 := hr2.ext hx4
  go_wp2_with fail
  refine (ints_any _ _ _ _ _ _ l l _ rfl rfl (by omega) hr1 hr2).mono ?_
  rintro e w5 ⟨rfl, hx5⟩
  rw [show (l == l) = true from by simp]
  go_wp2_with fail
  refine (alive_any _).mono ?_
  rintro e w6 ⟨rfl, hx6⟩
  go_wp2_with fail
  go_ret
  exact ⟨rfl, hx1.trans (hx2.trans (hx3.trans (hx4.trans (hx5.trans hx6))))⟩

set_option maxRecDepth 100000 in
theorem qrversionSizes_lifted (os : Os) (started : os.Started) (H : Type) (enc : TypeId × Value → H) :
    ReturnsInHanded {} Try.checked os 3 .any (Rows.qrversionSizesSpec.pre6 enc Try.prog Try.f3 Rows.qrversionSizesRow.domain false) (Rows.qrversionSizesSpec.post enc Try.prog Try.f3 false true false false) := by
  refine returnsInHanded_of_change (C := Try.checked) Try.own started (by kernel_rfl) Try.func3
    (ChangeSpec.witness6 (enc := enc) (C := Try.checked) false ⟨#[], #[.int .i64 0], []⟩ 8 (by kernel_rfl) (by kernel_rfl) (by kernel_rfl) (by kernel_rfl)) ?_
  intro W base args ds gs before hval0 hW _ _
  have hval : ∀ (j : Nat) t v, Try.f3.params[j]? = some t → args[j]? = some v → Value.okWide Try.prog W .any base t v := hval0
  have hW' := hW
  obtain ⟨p, q, hA0, hV, rfl, _, _⟩ := hW
  have hA : DataW.TrodAll enc Try.prog W 0 (fun _ => true) true Try.f3.params.toList args.toList ds p := hA0
  rw [Try.params3] at hA hval
  obtain ⟨rfl, rfl⟩ := trodVars_none hV
  clear hA0 hval0
  simp only [List.append_nil] at hW'
  have hlt : ∀ x ∈ p, x.block < W.heap.size := fun x hx => by simpa using hW'.lt x hx
  have hstay : ∀ W', Below W.heap.size W W' → _ := fun W' hb => args_stay (enc := enc) Try.laidOut hb _ _ _ _ (by kernel_rfl) hA hlt
  obtain ⟨v0, d0, rfl, rfl, h0⟩ := trodAll_one hA
  obtain ⟨x0, rfl, rfl, rfl, wx0⟩ := open_int Try.underlying3 (hval 0 3 v0 rfl rfl) h0
  refine (qrversionSizes_walk x0 W (wf_i64_bd wx0)).mono fun e W' ⟨he, hb⟩ => ?_
  subst he
  exact ⟨_, rfl, _, _, _, [], _, [], hW', trodAll_mk1 (shut_bool Try.underlying4 _), hstay W' hb, rfl, hb.frame _, fun h => by cases h⟩

theorem qrversionSizes_holds : Rows.QrversionSizesSaid :=
  OpenClaim.holds_of_wide 3 Try.f3 rfl rfl rfl rfl rfl rfl rfl ⟨rfl, rfl, rfl, rfl, rfl⟩ rfl rfl rfl rfl rfl (by kernel_rfl) Try.func3 (by kernel_rfl)
    (of_decide_eq_true (by kernel_rfl)) (by unfold Func.isWrapper; first | (rw [if_pos (by decide +kernel)]; kernel_rfl) | (rw [if_neg (by decide +kernel)]; exact ⟨rfl, rfl⟩))
    (fun os started H enc _ => qrversionSizes_lifted os started H enc)


end Go.Proofs.Ytnmmpgjcikhnhaa
