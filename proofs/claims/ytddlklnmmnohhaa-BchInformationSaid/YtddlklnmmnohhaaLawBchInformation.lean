/-
  For every input BchInformation returns true, and each argument reads afterwards as it read before (Rows.BchInformationSaid).
  No condition.
-/
import Derived.Test.YtddlklnmmnohhaaBchBase
import Derived.Test.YtddlklnmmnohhaaBchJ
namespace Go.Proofs.Ytddlklnmmnohhaa
open Go.RowKit Go.Bs Go.ChangeShapes Go.WideShapes Go.ChangeAt Go.Joins Go.Bch

theorem fmt_cases (l m : Int) : (∃ E, (E == 0) = false ∧ fmtRes l m = (0, E)) ∨
    ∃ k j : Nat, l = k ∧ m = j ∧ 1 ≤ k ∧ k ≤ 4 ∧ j < 8 := by
  by_cases h : (1 ≤ l ∧ l ≤ 4) ∧ (0 ≤ m ∧ m < 8)
  · exact Or.inr ⟨l.toNat, m.toNat, by omega, by omega, by omega, by omega, by omega⟩
  · refine Or.inl ?_
    by_cases hl : 1 ≤ l ∧ l ≤ 4
    · refine ⟨3, rfl, ?_⟩
      have hm : m < 0 ∨ 7 < m := by omega
      obtain rfl | rfl | rfl | rfl : l = 1 ∨ l = 2 ∨ l = 3 ∨ l = 4 := by omega
      all_goals exact fmtB_1 hm
    · exact ⟨15, rfl, fmtRes_5 (by omega) (by omega) (by omega) (by omega)⟩
theorem ver_cases (n : Int) : (∃ E, (E == 0) = false ∧ verRes n = (0, E)) ∨ ∃ k : Nat, n = k ∧ 7 ≤ k ∧ k ≤ 40 := by
  by_cases h : n < 7 ∨ 40 < n
  · exact Or.inl ⟨14, rfl, verRes_1 h⟩
  · exact Or.inr ⟨n.toNat, by omega, by omega, by omega⟩

/-- What the walk needs of the format's half. -/
def FmtOk (l m : Int) (y : Nat) : Prop :=
  (∃ E, (E == 0) = false ∧ Hid (fmtRes l m = (0, E))) ∨
  (∃ c : Nat, Hid (fmtRes l m = ((c : Int), 0)) ∧ 3 < wt y) ∨
  ∃ c : Nat, Hid (fmtRes l m = ((c : Int), 0)) ∧ wt y ≤ 3 ∧ Hid (pfRes (bits .xor .i64 (c : Int) (y : Int)) = (l, m, (wt y : Int), 0))
theorem fmtOk (l m : Int) (y : Nat) (hy : y < 32768) : FmtOk l m y := by
  rcases fmt_cases l m with ⟨E, h1, h2⟩ | ⟨k, j, rfl, rfl, h1, h2, h3⟩
  · exact Or.inl ⟨E, h1, h2⟩
  · refine Or.inr ?_
    have hf := fmtRes_at k j h1 h2 h3
    rcases Nat.lt_or_ge 3 (wt y) with hw | hw
    · exact Or.inl ⟨_, hf, hw⟩
    · refine Or.inr ⟨_, hf, hw, ?_⟩
      show _ = _
      have hb := bl_lt k
      have hc15 : cw (8 * bl k + j) 1335 < 32768 := by
        have := cw_lt 1335 (8 * bl k + j) 5 (by decide) (by omega) (by decide)
        rw [show 5 + Nat.log2 1335 = 15 by decide +kernel] at this
        exact this
      have hc2 : cw (8 * bl k + j) 1335 ^^^ 21522 < 32768 := Nat.xor_lt_two_pow (n := 15) hc15 (by decide)
      have hc3 : cw (8 * bl k + j) 1335 ^^^ 21522 ^^^ y < 32768 := Nat.xor_lt_two_pow (n := 15) hc2 hy
      rw [i64_xor_nat _ _ (by omega) (by omega), pfRes_2 hc3]
      have e : cw (8 * bl k + j) 1335 ^^^ (cw (8 * bl k + j) 1335 ^^^ 21522 ^^^ y ^^^ 21522) = y := by
        generalize cw (8 * bl k + j) 1335 = c
        rw [Nat.xor_assoc (c ^^^ 21522), Nat.xor_comm y, ← Nat.xor_assoc, ← Nat.xor_assoc, ← Nat.xor_assoc, Nat.xor_self, Nat.zero_xor, Nat.xor_self, Nat.zero_xor]
      rw [pfN_yes _ k j h1 h2 h3 (by rw [e]; exact hw), e]
def VerOk (n : Int) (y : Nat) : Prop :=
  (∃ E, (E == 0) = false ∧ Hid (verRes n = (0, E))) ∨
  (∃ c : Nat, Hid (verRes n = ((c : Int), 0)) ∧ 3 < wt y) ∨
  ∃ c : Nat, Hid (verRes n = ((c : Int), 0)) ∧ wt y ≤ 3 ∧ Hid (pvRes (bits .xor .i64 (c : Int) (y : Int)) = (n, (wt y : Int), 0))
theorem verOk (n : Int) (y : Nat) (hy : y < 262144) : VerOk n y := by
  rcases ver_cases n with ⟨E, h1, h2⟩ | ⟨k, rfl, h1, h2⟩
  · exact Or.inl ⟨E, h1, h2⟩
  · refine Or.inr ?_
    have hf := verRes_2 (n := k) (by omega)
    rcases Nat.lt_or_ge 3 (wt y) with hw | hw
    · exact Or.inl ⟨_, hf, hw⟩
    · refine Or.inr ⟨_, hf, hw, ?_⟩
      show _ = _
      have hc15 : cw k 7973 < 262144 := by
        have := cw_lt 7973 k 6 (by decide) (by omega) (by decide)
        rw [show 6 + Nat.log2 7973 = 18 by decide +kernel] at this
        exact this
      have hc3 : cw k 7973 ^^^ y < 262144 := Nat.xor_lt_two_pow (n := 18) hc15 hy
      rw [i64_xor_nat _ _ (by omega) (by omega), pvRes_2 hc3]
      have e : cw k 7973 ^^^ (cw k 7973 ^^^ y) = y := by rw [← Nat.xor_assoc, Nat.xor_self, Nat.zero_xor]
      rw [pvN_yes _ k (by omega) (by rw [e]; exact hw), e, if_neg (by omega)]

set_option maxRecDepth 20000 in
set_option maxHeartbeats 1000000 in
theorem bchInformation_walk (l m n b : Int) (w : World) (_ : -9223372036854775808 ≤ l ∧ l ≤ 9223372036854775807) (_ : -9223372036854775808 ≤ m ∧ m ≤ 9223372036854775807) (_ : -9223372036854775808 ≤ n ∧ n ≤ 9223372036854775807) (hb : 0 ≤ b ∧ b ≤ 4294967295) :
    Calls Try.prog 10 #[.int .i64 l, .int .i64 m, .int .i64 n, .int .u32 b] w fun e w' => e = .returned (.bool true) ∧ Ext w w' := by
  obtain ⟨y, hY⟩ : ∃ y : Nat, b % 32768 = (y : Int) := ⟨(b % 32768).toNat, by omega⟩
  obtain ⟨z, hZ⟩ : ∃ z : Nat, b % 262144 = (z : Int) := ⟨(b % 262144).toNat, by omega⟩
  have hy : y < 32768 := by omega
  have hz : z < 262144 := by omega
  have HY := Lib.hid hY
  have HZ := Lib.hid hZ
  clear hY hZ
  have HV0 := Lib.hid (verOk n z hz)
  have hwz := wt_lt 18 z hz
  have hwy := wt_lt 15 y hy
  rcases fmtOk l m y hy with ⟨E, hE, HF⟩ | ⟨c, HF, hw⟩ | ⟨c, HF, hw, HP⟩
  · go_enter Try.func10, Try.ntmps10
    go_wp2_with fail
    refine (format_any _ _ _).mono ?_
    rw [HF.out]
    rintro e w' ⟨rfl, rfl⟩
    simp only [two]
    go_wp2_with fail
    rcases HV0.out with ⟨E', hE', HV⟩ | ⟨c', HV, hw'⟩ | ⟨c', HV, hw', HP'⟩
    · refine (version_any _ _).mono ?_
      rw [HV.out]
      rintro e w' ⟨rfl, rfl⟩
      simp only [two]
      go_wp2_with fail
      refine (examples_any _).mono ?_
      rintro e w' ⟨rfl, rfl⟩
      go_wp2_with fail
      go_ret
      exact ⟨rfl, Ext.refl _⟩
    · refine (version_any _ _).mono ?_
      rw [HV.out]
      rintro e w' ⟨rfl, rfl⟩
      simp only [two]
      go_wp2_with fail
      rw [HZ.out]
      refine (ones_any z _ (by omega)).mono ?_
      rintro e w' ⟨rfl, rfl⟩
      go_wp2_with fail
      refine (examples_any _).mono ?_
      rintro e w' ⟨rfl, rfl⟩
      go_wp2_with fail
      go_ret
      exact ⟨rfl, Ext.refl _⟩
    · refine (version_any _ _).mono ?_
      rw [HV.out]
      rintro e w' ⟨rfl, rfl⟩
      simp only [two]
      go_wp2_with fail
      rw [HZ.out]
      refine (ones_any z _ (by omega)).mono ?_
      rintro e w' ⟨rfl, rfl⟩
      go_wp2_with fail
      refine (parseVersion_any _ _).mono ?_
      rw [HP'.out]
      rintro e w' ⟨rfl, rfl⟩
      simp only [three]
      go_wp2_with fail
      refine (ones_any z _ (by omega)).mono ?_
      rintro e w' ⟨rfl, rfl⟩
      go_wp2_with fail
      refine (examples_any _).mono ?_
      rintro e w' ⟨rfl, rfl⟩
      go_wp2_with fail
      go_ret
      exact ⟨rfl, Ext.refl _⟩
  · go_enter Try.func10, Try.ntmps10
    go_wp2_with fail
    refine (format_any _ _ _).mono ?_
    rw [HF.out]
    rintro e w' ⟨rfl, rfl⟩
    simp only [two]
    go_wp2_with fail
    rw [HY.out]
    refine (ones_any y _ (by omega)).mono ?_
    rintro e w' ⟨rfl, rfl⟩
    go_wp2_with fail
    rcases HV0.out with ⟨E', hE', HV⟩ | ⟨c', HV, hw'⟩ | ⟨c', HV, hw', HP'⟩
    · refine (version_any _ _).mono ?_
      rw [HV.out]
      rintro e w' ⟨rfl, rfl⟩
      simp only [two]
      go_wp2_with fail
      refine (examples_any _).mono ?_
      rintro e w' ⟨rfl, rfl⟩
      go_wp2_with fail
      go_ret
      exact ⟨rfl, Ext.refl _⟩
    · refine (version_any _ _).mono ?_
      rw [HV.out]
      rintro e w' ⟨rfl, rfl⟩
      simp only [two]
      go_wp2_with fail
      rw [HZ.out]
      refine (ones_any z _ (by omega)).mono ?_
      rintro e w' ⟨rfl, rfl⟩
      go_wp2_with fail
      refine (examples_any _).mono ?_
      rintro e w' ⟨rfl, rfl⟩
      go_wp2_with fail
      go_ret
      exact ⟨rfl, Ext.refl _⟩
    · refine (version_any _ _).mono ?_
      rw [HV.out]
      rintro e w' ⟨rfl, rfl⟩
      simp only [two]
      go_wp2_with fail
      rw [HZ.out]
      refine (ones_any z _ (by omega)).mono ?_
      rintro e w' ⟨rfl, rfl⟩
      go_wp2_with fail
      refine (parseVersion_any _ _).mono ?_
      rw [HP'.out]
      rintro e w' ⟨rfl, rfl⟩
      simp only [three]
      go_wp2_with fail
      refine (ones_any z _ (by omega)).mono ?_
      rintro e w' ⟨rfl, rfl⟩
      go_wp2_with fail
      refine (examples_any _).mono ?_
      rintro e w' ⟨rfl, rfl⟩
      go_wp2_with fail
      go_ret
      exact ⟨rfl, Ext.refl _⟩
  · go_enter Try.func10, Try.ntmps10
    go_wp2_with fail
    refine (format_any _ _ _).mono ?_
    rw [HF.out]
    rintro e w' ⟨rfl, rfl⟩
    simp only [two]
    go_wp2_with fail
    rw [HY.out]
    refine (ones_any y _ (by omega)).mono ?_
    rintro e w' ⟨rfl, rfl⟩
    go_wp2_with fail
    refine (parseFormat_any _ _).mono ?_
    rw [HP.out]
    rintro e w1 ⟨rfl, HX⟩
    simp only [four]
    go_wp2_with fail
    refine (ones_any y _ (by omega)).mono ?_
    rintro e w' ⟨rfl, rfl⟩
    go_wp2_with fail
    rcases HV0.out with ⟨E', hE', HV⟩ | ⟨c', HV, hw'⟩ | ⟨c', HV, hw', HP'⟩
    · refine (version_any _ _).mono ?_
      rw [HV.out]
      rintro e w' ⟨rfl, rfl⟩
      simp only [two]
      go_wp2_with fail
      refine (examples_any _).mono ?_
      rintro e w' ⟨rfl, rfl⟩
      go_wp2_with fail
      go_ret
      exact ⟨rfl, HX⟩
    · refine (version_any _ _).mono ?_
      rw [HV.out]
      rintro e w' ⟨rfl, rfl⟩
      simp only [two]
      go_wp2_with fail
      rw [HZ.out]
      refine (ones_any z _ (by omega)).mono ?_
      rintro e w' ⟨rfl, rfl⟩
      go_wp2_with fail
      refine (examples_any _).mono ?_
      rintro e w' ⟨rfl, rfl⟩
      go_wp2_with fail
      go_ret
      exact ⟨rfl, HX⟩
    · refine (version_any _ _).mono ?_
      rw [HV.out]
      rintro e w' ⟨rfl, rfl⟩
      simp only [two]
      go_wp2_with fail
      rw [HZ.out]
      refine (ones_any z _ (by omega)).mono ?_
      rintro e w' ⟨rfl, rfl⟩
      go_wp2_with fail
      refine (parseVersion_any _ _).mono ?_
      rw [HP'.out]
      rintro e w' ⟨rfl, rfl⟩
      simp only [three]
      go_wp2_with fail
      refine (ones_any z _ (by omega)).mono ?_
      rintro e w' ⟨rfl, rfl⟩
      go_wp2_with fail
      refine (examples_any _).mono ?_
      rintro e w' ⟨rfl, rfl⟩
      go_wp2_with fail
      go_ret
      exact ⟨rfl, HX⟩

set_option maxRecDepth 100000 in
theorem bchInformation_lifted (os : Os) (started : os.Started) (H : Type) (enc : TypeId × Value → H) :
    ReturnsInHanded {} Try.checked os 10 .any (Rows.bchInformationSpec.pre6 enc Try.prog Try.f10 Rows.bchInformationRow.domain false) (Rows.bchInformationSpec.post enc Try.prog Try.f10 false true false false) := by
  refine returnsInHanded_of_change (C := Try.checked) Try.own started (by kernel_rfl) Try.func10
    (ChangeSpec.witness6 (enc := enc) (C := Try.checked) false ⟨#[], #[.int .i64 0, .int .i64 0, .int .i64 0, .int .u32 0], []⟩ 8 (by kernel_rfl) (by kernel_rfl) (by kernel_rfl) (by kernel_rfl)) ?_
  intro W base args ds gs before hval0 hW _ _
  have hval : ∀ (j : Nat) t v, Try.f10.params[j]? = some t → args[j]? = some v → Value.okWide Try.prog W .any base t v := hval0
  have hW' := hW
  obtain ⟨p, q, hA0, hV, rfl, _, _⟩ := hW
  have hA : DataW.TrodAll enc Try.prog W 0 (fun _ => true) true Try.f10.params.toList args.toList ds p := hA0
  rw [Try.params10] at hA hval
  obtain ⟨rfl, rfl⟩ := trodVars_none hV
  clear hA0 hval0
  simp only [List.append_nil] at hW'
  have hlt : ∀ x ∈ p, x.block < W.heap.size := fun x hx => by simpa using hW'.lt x hx
  have hstay : ∀ W', Below W.heap.size W W' → _ := fun W' hb => args_stay (enc := enc) Try.laidOut hb _ _ _ _ (by kernel_rfl) hA hlt
  obtain ⟨v0, v1, v2, v3, d0, d1, d2, d3, p0, p1, p2, p3, rfl, rfl, rfl, h0, h1, h2, h3⟩ := trodAll_four hA
  obtain ⟨x0, rfl, rfl, rfl, wx0⟩ := open_int Try.underlying36 (hval 0 36 v0 rfl rfl) h0
  obtain ⟨x1, rfl, rfl, rfl, wx1⟩ := open_int Try.underlying3 (hval 1 3 v1 rfl rfl) h1
  obtain ⟨x2, rfl, rfl, rfl, wx2⟩ := open_int Try.underlying3 (hval 2 3 v2 rfl rfl) h2
  obtain ⟨x3, rfl, rfl, rfl, wx3⟩ := open_int Try.underlying34 (hval 3 34 v3 rfl rfl) h3
  refine (bchInformation_walk x0 x1 x2 x3 W (wf_i64_bd wx0) (wf_i64_bd wx1) (wf_i64_bd wx2) (wf_u32_bd wx3)).mono fun e W' ⟨he, hb⟩ => ?_
  subst he
  exact ⟨_, rfl, _, _, _, [], _, [], hW', trodAll_mk1 (shut_bool Try.underlying4 _), hstay W' hb, rfl, hb.frame _, fun h => by cases h⟩

theorem bchInformation_holds : Rows.BchInformationSaid :=
  OpenClaim.holds_of_wide 10 Try.f10 rfl rfl rfl rfl rfl rfl rfl ⟨rfl, rfl, rfl, rfl, rfl⟩ rfl rfl rfl rfl rfl (by kernel_rfl) Try.func10 (by kernel_rfl)
    (of_decide_eq_true (by kernel_rfl)) (by unfold Func.isWrapper; first | (rw [if_pos (by decide +kernel)]; kernel_rfl) | (rw [if_neg (by decide +kernel)]; exact ⟨rfl, rfl⟩))
    (fun os started H enc _ => bchInformation_lifted os started H enc)


end Go.Proofs.Ytddlklnmmnohhaa
