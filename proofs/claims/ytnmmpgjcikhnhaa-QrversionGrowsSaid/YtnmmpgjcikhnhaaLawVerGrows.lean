/-
  For every input QrversionGrows returns true, and each argument reads afterwards as it read before (Rows.QrversionGrowsSaid).
  No condition.
-/
import Derived.Test.YtnmmpgjcikhnhaaVerBase
namespace Go.Proofs.Ytnmmpgjcikhnhaa
open Go.RowKit Go.Bs Go.ChangeShapes Go.WideShapes Go.ChangeAt Go.Joins Go.Qrv

theorem grow_v : ∀ i : Fin 39, ∀ j : Fin 4, dataN (i.val + 1) (j.val + 1) < dataN (i.val + 2) (j.val + 1) := by decide +kernel
theorem grow_l : ∀ i : Fin 40, ∀ j : Fin 3, dataN (i.val + 1) (j.val + 2) < dataN (i.val + 1) (j.val + 1) := by decide +kernel
theorem grow_v' (n k : Nat) (h1 : 1 ≤ n) (h2 : n < 40) (h3 : 1 ≤ k) (h4 : k ≤ 4) : dataN n k < dataN (n + 1) k := by
  have := grow_v ⟨n - 1, by omega⟩ ⟨k - 1, by omega⟩
  simp only [show n - 1 + 1 = n by omega, show n - 1 + 2 = n + 1 by omega, show k - 1 + 1 = k by omega] at this
  exact this
theorem grow_l' (n k : Nat) (h1 : 1 ≤ n) (h2 : n ≤ 40) (h3 : 1 ≤ k) (h4 : k < 4) : dataN n (k + 1) < dataN n k := by
  have := grow_l ⟨n - 1, by omega⟩ ⟨k - 1, by omega⟩
  simp only [show n - 1 + 1 = n by omega, show k - 1 + 2 = k + 1 by omega, show k - 1 + 1 = k by omega] at this
  exact this

/-- The two neighbours. -/
theorem next_v (n k : Nat) (h1 : 1 ≤ n) (h2 : n ≤ 40) (h3 : 1 ≤ k) (h4 : k ≤ 4) :
    (n < 40 ∧ ∃ b : Nat, dataN n k < b ∧ cpRes ((n : Int) + 1) k = ((b : Int), 0)) ∨ (40 ≤ n ∧ cpRes ((n : Int) + 1) k = (0, 14)) := by
  by_cases h : n < 40
  · refine Or.inl ⟨h, dataN (n + 1) k, grow_v' n k h1 h h3 h4, ?_⟩
    have := cpRes_3 (v := n + 1) (l := k) ⟨by omega, by omega⟩ ⟨h3, h4⟩
    exact this
  · exact Or.inr ⟨by omega, cpRes_1 (by intro hh; obtain ⟨a, b⟩ := hh; omega)⟩
theorem next_l (n k : Nat) (h1 : 1 ≤ n) (h2 : n ≤ 40) (h3 : 1 ≤ k) (h4 : k ≤ 4) :
    (k < 4 ∧ ∃ b : Nat, b < dataN n k ∧ cpRes n ((k : Int) + 1) = ((b : Int), 0)) ∨ (4 ≤ k ∧ cpRes n ((k : Int) + 1) = (0, 15)) := by
  by_cases h : k < 4
  · refine Or.inl ⟨h, dataN n (k + 1), grow_l' n k h1 h2 h3 h, ?_⟩
    have := cpRes_3 (v := n) (l := k + 1) ⟨by omega, by omega⟩ ⟨by omega, by omega⟩
    exact this
  · exact Or.inr ⟨by omega, cpRes_2 ⟨by omega, by omega⟩ (by omega)⟩

set_option maxRecDepth 20000 in
set_option maxHeartbeats 1000000 in
theorem grows_bad (v l E : Int) (w : World) (hE : (E == 0) = false) (HC : Hid (cpRes v l = (0, E))) :
    Calls Try.prog 7 #[.int .i64 v, .int .i64 l] w fun e w' => e = .returned (.bool true) ∧ Ext w w' := by
  have hE2 : (E != 0) = true := by rw [bne, hE]; rfl
  go_enter Try.func7, Try.ntmps7
  go_wp2_with fail
  refine (capacity_any _ _ _).mono ?_
  rw [HC.out]
  rintro e w1 ⟨rfl, hx1⟩
  simp only [two]
  go_wp2_with fail
  refine (alive_any _).mono ?_
  rintro e w6 ⟨rfl, hx6⟩
  go_wp2_with fail
  go_ret
  exact ⟨rfl, hx1.trans hx6⟩

set_option maxRecDepth 20000 in
set_option maxHeartbeats 1000000 in
theorem qrversionGrows_walk (v l : Int) (w : World) (_ : -9223372036854775808 ≤ v ∧ v ≤ 9223372036854775807) (_ : -9223372036854775808 ≤ l ∧ l ≤ 9223372036854775807) :
    Calls Try.prog 7 #[.int .i64 v, .int .i64 l] w fun e w' => e = .returned (.bool true) ∧ Ext w w' := by
  by_cases hv : inV v
  · rcases level_cases l with hl | ⟨k, rfl, hk1, hk4⟩
    · exact grows_bad v l 15 w rfl (cpRes_2 hv hl)
    · obtain ⟨n, rfl, h1, h2⟩ := inV_nat hv
      have HC := Lib.hid (cpRes_3 hv ⟨hk1, hk4⟩)
      clear hv
      have hnv := next_v n k h1 h2 hk1 hk4
      have hnl := next_l n k h1 h2 hk1 hk4
      obtain ⟨D, hD⟩ : ∃ D, D = dataN n k := ⟨_, rfl⟩
      rw [← hD] at HC hnv hnl
      clear hD
      rcases hnv with ⟨hn, b, hb, HB⟩ | ⟨hn, HB⟩
      all_goals
        rcases hnl with ⟨hk, c, hc, HL⟩ | ⟨hk, HL⟩
        all_goals
          replace HB := Lib.hid HB
          replace HL := Lib.hid HL
          go_enter Try.func7, Try.ntmps7
          go_wp2_with fail
          refine (capacity_any _ _ _).mono ?_
          rw [HC.out]
          rintro e w1 ⟨rfl, hx1⟩
          simp only [two]
          go_wp2_with fail
          refine (capacity_any _ _ _).mono ?_
          rw [HB.out]
          rintro e w2 ⟨rfl, hx2⟩
          simp only [two]
          go_wp2_with fail
          refine (capacity_any _ _ _).mono ?_
          rw [HL.out]
          rintro e w3 ⟨rfl, hx3⟩
          simp only [two]
          go_wp2_with fail
          refine (alive_any _).mono ?_
          rintro e w6 ⟨rfl, hx6⟩
          go_wp2_with fail
          go_ret
          exact ⟨rfl, hx1.trans (hx2.trans (hx3.trans hx6))⟩
  · exact grows_bad v l 14 w rfl (cpRes_1 hv)

set_option maxRecDepth 100000 in
theorem qrversionGrows_lifted (os : Os) (started : os.Started) (H : Type) (enc : TypeId × Value → H) :
    ReturnsInHanded {} Try.checked os 7 .any (Rows.qrversionGrowsSpec.pre6 enc Try.prog Try.f7 Rows.qrversionGrowsRow.domain false) (Rows.qrversionGrowsSpec.post enc Try.prog Try.f7 false true false false) := by
  refine returnsInHanded_of_change (C := Try.checked) Try.own started (by kernel_rfl) Try.func7
    (ChangeSpec.witness6 (enc := enc) (C := Try.checked) false ⟨#[], #[.int .i64 0, .int .i64 0], []⟩ 8 (by kernel_rfl) (by kernel_rfl) (by kernel_rfl) (by kernel_rfl)) ?_
  intro W base args ds gs before hval0 hW _ _
  have hval : ∀ (j : Nat) t v, Try.f7.params[j]? = some t → args[j]? = some v → Value.okWide Try.prog W .any base t v := hval0
  have hW' := hW
  obtain ⟨p, q, hA0, hV, rfl, _, _⟩ := hW
  have hA : DataW.TrodAll enc Try.prog W 0 (fun _ => true) true Try.f7.params.toList args.toList ds p := hA0
  rw [Try.params7] at hA hval
  obtain ⟨rfl, rfl⟩ := trodVars_none hV
  clear hA0 hval0
  simp only [List.append_nil] at hW'
  have hlt : ∀ x ∈ p, x.block < W.heap.size := fun x hx => by simpa using hW'.lt x hx
  have hstay : ∀ W', Below W.heap.size W W' → _ := fun W' hb => args_stay (enc := enc) Try.laidOut hb _ _ _ _ (by kernel_rfl) hA hlt
  obtain ⟨v0, v1, d0, d1, p0, p1, rfl, rfl, rfl, h0, h1⟩ := trodAll_two hA
  obtain ⟨x0, rfl, rfl, rfl, wx0⟩ := open_int Try.underlying3 (hval 0 3 v0 rfl rfl) h0
  obtain ⟨x1, rfl, rfl, rfl, wx1⟩ := open_int Try.underlying33 (hval 1 33 v1 rfl rfl) h1
  refine (qrversionGrows_walk x0 x1 W (wf_i64_bd wx0) (wf_i64_bd wx1)).mono fun e W' ⟨he, hb⟩ => ?_
  subst he
  exact ⟨_, rfl, _, _, _, [], _, [], hW', trodAll_mk1 (shut_bool Try.underlying4 _), hstay W' hb, rfl, hb.frame _, fun h => by cases h⟩

theorem qrversionGrows_holds : Rows.QrversionGrowsSaid :=
  OpenClaim.holds_of_wide 7 Try.f7 rfl rfl rfl rfl rfl rfl rfl ⟨rfl, rfl, rfl, rfl, rfl⟩ rfl rfl rfl rfl rfl (by kernel_rfl) Try.func7 (by kernel_rfl)
    (of_decide_eq_true (by kernel_rfl)) (by unfold Func.isWrapper; first | (rw [if_pos (by decide +kernel)]; kernel_rfl) | (rw [if_neg (by decide +kernel)]; exact ⟨rfl, rfl⟩))
    (fun os started H enc _ => qrversionGrows_lifted os started H enc)


end Go.Proofs.Ytnmmpgjcikhnhaa
