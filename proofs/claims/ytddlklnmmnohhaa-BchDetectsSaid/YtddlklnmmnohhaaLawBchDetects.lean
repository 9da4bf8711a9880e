/-
  For every input BchDetects returns true, and each argument reads afterwards as it read before (Rows.BchDetectsSaid).
  No condition.
-/
import Derived.Test.YtddlklnmmnohhaaBchBase
namespace Go.Proofs.Ytddlklnmmnohhaa
open Go.RowKit Go.Bs Go.ChangeShapes Go.WideShapes Go.ChangeAt Go.Joins Go.Bch

theorem decRes_cases (x k g : Int) : (∃ e, (e = 1 ∨ e = 3 ∨ e = 17) ∧ decRes x k g = (0, 0, e)) ∨
    ∃ x' k' g' v : Nat, x = x' ∧ k = k' ∧ g = g' ∧ valP k g ∧ x' < pw (k' + g'.log2) ∧ v < pw k' ∧ 2 * wt (cw v g' ^^^ x') < dist k' g' ∧ decRes x k g = ((v : Int), (wt (cw v g' ^^^ x') : Int), 0) := by
  by_cases hv : valP k g
  · obtain ⟨k', g', rfl, rfl⟩ := nats hv
    by_cases hn : x < 0 ∨ (pw (k' + g'.log2) : Int) ≤ x
    · exact Or.inl ⟨3, by decide, decRes_2 hv hn⟩
    · obtain ⟨x', rfl⟩ : ∃ x' : Nat, x = x' := ⟨x.toNat, by omega⟩
      have e := decRes_3 hv hn
      rcases decN_ok x' k' g' (by have := hv.2.1; omega) (by have := hv.2.2.1; omega) with h | ⟨v, h1, h2, h3⟩
      · exact Or.inl ⟨17, by decide, e.trans h⟩
      · exact Or.inr ⟨x', k', g', v, rfl, rfl, rfl, hv, by omega, h1, h2, e.trans h3⟩
  · exact Or.inl ⟨1, by decide, decRes_1 hv⟩

set_option maxRecDepth 20000 in
set_option maxHeartbeats 1000000 in
theorem bchDetects_walk (x k g : Int) (w : World) (_ : -9223372036854775808 ≤ x ∧ x ≤ 9223372036854775807) (_ : -9223372036854775808 ≤ k ∧ k ≤ 9223372036854775807) (_ : -9223372036854775808 ≤ g ∧ g ≤ 9223372036854775807) :
    Calls Try.prog 7 #[.int .i64 x, .int .i64 k, .int .i64 g] w fun e w' => e = .returned (.bool true) ∧ Ext w w' := by
  rcases decRes_cases x k g with ⟨e, he, hd⟩ | ⟨x', k', g', v, rfl, rfl, rfl, hv, hx, hvk, hn, hd⟩
  · have HD := Lib.hid hd
    clear hd
    rcases he with rfl | rfl | rfl
    all_goals
      go_enter Try.func7, Try.ntmps7
      go_wp2_with fail
      refine (decode_any _ _ _ _).mono ?_
      rw [HD.out]
      rintro e w' ⟨rfl, rfl⟩
      simp only [three]
      go_wp2_with fail
      refine (examples_any _).mono ?_
      rintro e w' ⟨rfl, rfl⟩
      go_wp2_with fail
      go_ret
      exact ⟨rfl, Ext.refl _⟩
  · have HD := Lib.hid hd
    have HV := Lib.hid hv
    have HDI : Hid (distRes (k' : Int) (g' : Int) = ((dist k' g' : Int), 0)) := by show _ = _; unfold distRes; rw [if_pos hv]; rfl
    have HE : Hid (encRes (v : Int) (k' : Int) (g' : Int) = ((cw v g' : Int), 0)) := encRes_3 hv (by show ¬ ((v : Int) < 0 ∨ (pw k' : Int) ≤ (v : Int)); omega)
    obtain ⟨h1, h2, h3, h4, h5⟩ := hv
    clear h5 hd
    have hb := deg_bd g' (by omega) (by omega)
    have hq30 := pw_le (k' + g'.log2) 30 (by omega)
    have h30 : pw 30 = 1073741824 := rfl
    have hp12 := pw_le k' 12 (by omega)
    have h12 : pw 12 = 4096 := rfl
    have hcl := cw_lt30 v g' (by omega) (by omega) (by omega)
    have hd31 := dist_le k' g'
    have hxl : x' < 1073741824 := by omega
    obtain ⟨c, hc⟩ : ∃ c, c = cw v g' ^^^ x' := ⟨_, rfl⟩
    have hcb : c < 1073741824 := by rw [hc]; exact Nat.xor_lt_two_pow (n := 30) hcl hxl
    have HX : Hid (bits .xor .i64 (cw v g' : Int) (x' : Int) = (c : Int)) := by
      show _ = _
      rw [i64_xor_nat _ _ (by omega) (by omega), hc]
    rw [← hc] at hn HD
    clear hc hq30 h30 hp12 h12 hx
    obtain ⟨n, hnn⟩ : ∃ n, n = wt c := ⟨_, rfl⟩
    rw [← hnn] at hn HD
    have HN := Lib.hid hnn
    clear hnn
    go_enter Try.func7, Try.ntmps7
    go_wp2_with fail
    refine (decode_any _ _ _ _).mono ?_
    rw [HD.out]
    rintro e w' ⟨rfl, rfl⟩
    simp only [three]
    go_wp2_with fail
    refine (distance_any _ _ _).mono ?_
    rw [HDI.out]
    rintro e w' ⟨rfl, rfl⟩
    simp only [two]
    go_wp2_with fail
    refine (encode_any _ _ _ _).mono ?_
    rw [HE.out]
    rintro e w' ⟨rfl, rfl⟩
    simp only [two]
    go_wp2_with fail
    rw [HX.out]
    refine (ones_any c _ (by omega)).mono ?_
    rw [← HN.out]
    rintro e w' ⟨rfl, rfl⟩
    go_wp2_with fail
    refine (examples_any _).mono ?_
    rintro e w' ⟨rfl, rfl⟩
    go_wp2_with fail
    go_ret
    exact ⟨rfl, Ext.refl _⟩

set_option maxRecDepth 100000 in
theorem bchDetects_lifted (os : Os) (started : os.Started) (H : Type) (enc : TypeId × Value → H) :
    ReturnsInHanded {} Try.checked os 7 .any (Rows.bchDetectsSpec.pre6 enc Try.prog Try.f7 Rows.bchDetectsRow.domain false) (Rows.bchDetectsSpec.post enc Try.prog Try.f7 false true false false) := by
  refine returnsInHanded_of_change (C := Try.checked) Try.own started (by kernel_rfl) Try.func7
    (ChangeSpec.witness6 (enc := enc) (C := Try.checked) false ⟨#[], #[.int .i64 0, .int .i64 0, .int .i64 0], []⟩ 8 (by kernel_rfl) (by kernel_rfl) (by kernel_rfl) (by kernel_rfl)) ?_
  intro W base args ds gs before hval0 hW _ _
  have hval : ∀ (j : Nat) t v, Try.f7.params[j]? = some t → args[j]? = some v → Value.okWide Try.prog W .any base t v := hval0
  have hW' := hW
  obtain ⟨p, q, hA0, hV, rfl, _, _⟩ := hW
  have hA : DataW.TrodAll enc Try.prog W 0 (fun _ => true) true Try.f7.params.toList args.toList ds p := hA0
  rw [Try.params7] at hA hval
  obtain ⟨rfl, rfl⟩ := trodVars_none hV
  clear hA0 hval0
  simp only [List.append_nil] at hW'
  have hlt : ∀ x ∈ p, x.block < W.heap.size := fun x hx => by simpa using hW'.lt x hx
  have hstay : ∀ W', Below W.heap.size W W' → _ := fun W' hb => args_stay (enc := enc) Try.laidOut hb _ _ _ _ (by kernel_rfl) hA hlt
  obtain ⟨v0, v1, v2, d0, d1, d2, p0, p1, p2, rfl, rfl, rfl, h0, h1, h2⟩ := trodAll_three hA
  obtain ⟨x0, rfl, rfl, rfl, wx0⟩ := open_int Try.underlying3 (hval 0 3 v0 rfl rfl) h0
  obtain ⟨x1, rfl, rfl, rfl, wx1⟩ := open_int Try.underlying3 (hval 1 3 v1 rfl rfl) h1
  obtain ⟨x2, rfl, rfl, rfl, wx2⟩ := open_int Try.underlying3 (hval 2 3 v2 rfl rfl) h2
  refine (bchDetects_walk x0 x1 x2 W (wf_i64_bd wx0) (wf_i64_bd wx1) (wf_i64_bd wx2)).mono fun e W' ⟨he, hb⟩ => ?_
  subst he
  exact ⟨_, rfl, _, _, _, [], _, [], hW', trodAll_mk1 (shut_bool Try.underlying4 _), hstay W' hb, rfl, hb.frame _, fun h => by cases h⟩

theorem bchDetects_holds : Rows.BchDetectsSaid :=
  OpenClaim.holds_of_wide 7 Try.f7 rfl rfl rfl rfl rfl rfl rfl ⟨rfl, rfl, rfl, rfl, rfl⟩ rfl rfl rfl rfl rfl (by kernel_rfl) Try.func7 (by kernel_rfl)
    (of_decide_eq_true (by kernel_rfl)) (by unfold Func.isWrapper; first | (rw [if_pos (by decide +kernel)]; kernel_rfl) | (rw [if_neg (by decide +kernel)]; exact ⟨rfl, rfl⟩))
    (fun os started H enc _ => bchDetects_lifted os started H enc)


end Go.Proofs.Ytddlklnmmnohhaa
