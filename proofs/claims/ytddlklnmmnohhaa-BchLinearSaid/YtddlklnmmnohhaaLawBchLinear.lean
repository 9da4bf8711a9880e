/-
  For every input BchLinear returns true, and each argument reads afterwards as it read before (Rows.BchLinearSaid).
  No condition.
-/
import Derived.Test.YtddlklnmmnohhaaBchBase
namespace Go.Proofs.Ytddlklnmmnohhaa
open Go.RowKit Go.Bs Go.ChangeShapes Go.WideShapes Go.ChangeAt Go.Joins Go.Bch

set_option maxRecDepth 20000 in
set_option maxHeartbeats 1000000 in
theorem bchLinear_walk (a b k g : Int) (w : World) (ha : 0 ≤ a ∧ a ≤ 65535) (hb : 0 ≤ b ∧ b ≤ 65535) (_ : -9223372036854775808 ≤ k ∧ k ≤ 9223372036854775807) (hg : -9223372036854775808 ≤ g ∧ g ≤ 9223372036854775807) :
    Calls Try.prog 5 #[.int .u16 a, .int .u16 b, .int .i64 k, .int .i64 g] w fun e w' => e = .returned (.bool true) ∧ Ext w w' := by
  by_cases hk : k < 1 ∨ 12 < k
  · have HE : Hid (encRes 0 k g = (0, 1)) := encRes_1 (by unfold valP; omega)
    rcases Int.lt_or_le k 1 with h0 | h0
    all_goals
      first | (have h7 : 12 < k := by omega) | skip
      clear hk
      go_enter Try.func5, Try.ntmps5
      go_wp2_with fail
      refine (encode_any _ _ _ _).mono ?_
      rw [HE.out]
      rintro e w' ⟨rfl, rfl⟩
      simp only [two]
      go_wp2_with fail
      refine (examples_any _).mono ?_
      rintro e w' ⟨rfl, rfl⟩
      go_wp2_with fail
      go_ret
      exact ⟨rfl, Ext.refl _⟩
  · obtain ⟨a', rfl⟩ : ∃ a' : Nat, a = a' := ⟨a.toNat, by omega⟩
    obtain ⟨b', rfl⟩ : ∃ b' : Nat, b = b' := ⟨b.toNat, by omega⟩
    obtain ⟨k', rfl⟩ : ∃ k' : Nat, k = k' := ⟨k.toNat, by omega⟩
    have hk1 : 1 ≤ k' := by omega
    have hk2 : k' ≤ 12 := by omega
    clear hk
    have hp := one_shl k' (by omega)
    have hp12 := pw_le k' 12 (by omega)
    have h12 : pw 12 = 4096 := rfl
    rw [h12] at hp12
    have hpp := pw_pos k'
    obtain ⟨x, hx⟩ : ∃ x, x = a' % pw k' := ⟨_, rfl⟩
    obtain ⟨y, hy⟩ : ∃ y, y = b' % pw k' := ⟨_, rfl⟩
    have hxl : x < pw k' := by rw [hx]; exact Nat.mod_lt _ hpp
    have hyl : y < pw k' := by rw [hy]; exact Nat.mod_lt _ hpp
    have HXL := Lib.hid hxl
    have hxyl : x ^^^ y < pw k' := Nat.xor_lt_two_pow (n := k') hxl hyl
    have HXX : Hid ((a' : Int) % (pw k' : Int) = (x : Int)) := by show _ = _; rw [hx]; rfl
    have HYY : Hid ((b' : Int) % (pw k' : Int) = (y : Int)) := by show _ = _; rw [hy]; rfl
    have HXY : Hid (bits .xor .i64 (x : Int) (y : Int) = ((x ^^^ y : Nat) : Int)) := i64_xor_nat _ _ (by omega) (by omega)
    have HB : ∀ z : Nat, z < pw k' → ¬ ((z : Int) < 0 ∨ ((pw k' : Nat) : Int) ≤ (z : Int)) := fun z hz => by omega
    by_cases hv : valP (k' : Int) g
    · obtain ⟨g', rfl⟩ : ∃ g' : Nat, g = g' := ⟨g.toNat, by have := hv.2.2.1; omega⟩
      have HE : Hid (∀ z : Nat, z < pw k' → encRes (z : Int) (k' : Int) (g' : Int) = ((cw z g' : Int), 0)) := fun z hz => encRes_3 hv (HB z hz)
      obtain ⟨h1, h2, h3, h4, h5⟩ := hv
      clear h5 HB
      have hd := deg_bd g' (by omega) (by omega)
      have hc1 := cw_lt30 x g' (by omega) (by omega) (by omega)
      have hc2 := cw_lt30 y g' (by omega) (by omega) (by omega)
      have HC : Hid (bits .xor .i64 (cw x g' : Int) (cw y g' : Int) = (cw (x ^^^ y) g' : Int)) := by
        show _ = _; rw [i64_xor_nat _ _ (by omega) (by omega), cw_xor]
      have HU : Hid ((cw x g' : Int) / 2 ^ g'.log2 = (x : Int)) := by
        show _ = _
        have := cw_upper x g' k' (by omega) HXL.out hk2
        rw [show (2 : Int) ^ g'.log2 = ((2 ^ g'.log2 : Nat) : Int) from by rw [Int.natCast_pow]; rfl]
        rw [show (cw x g' : Int) / ((2 ^ g'.log2 : Nat) : Int) = ((cw x g' / 2 ^ g'.log2 : Nat) : Int) from rfl, this]
      have HXL := Lib.hid hxl
      have HYL := Lib.hid hyl
      have HXYL := Lib.hid hxyl
      obtain ⟨P, hP⟩ : ∃ P, P = pw k' := ⟨_, rfl⟩
      have HP := Lib.hid hP
      rw [← hP] at hp hp12 hpp HXX HYY
      clear hP hx hy hxl hyl hxyl
      go_enter Try.func5, Try.ntmps5
      go_wp2_with fail
      rw [HXX.out, HYY.out]
      refine (encode_any _ _ _ _).mono ?_
      rw [HE.out _ HXL.out]
      rintro e w' ⟨rfl, rfl⟩
      simp only [two]
      go_wp2_with fail
      refine (encode_any _ _ _ _).mono ?_
      rw [HE.out _ HYL.out]
      rintro e w' ⟨rfl, rfl⟩
      simp only [two]
      go_wp2_with fail
      rw [HXY.out]
      refine (encode_any _ _ _ _).mono ?_
      rw [HE.out _ HXYL.out]
      rintro e w' ⟨rfl, rfl⟩
      simp only [two]
      go_wp2_with fail
      refine (ldegree_any g' _ (by omega) (by omega)).mono ?_
      rintro e w' ⟨rfl, rfl⟩
      have hc := HC.out
      have hu := HU.out
      go_wp2_with fail
      refine (examples_any _).mono ?_
      rintro e w' ⟨rfl, rfl⟩
      go_wp2_with fail
      go_ret
      exact ⟨rfl, Ext.refl _⟩
    · have HE : Hid (∀ z : Int, encRes z (k' : Int) g = (0, 1)) := fun z => encRes_1 hv
      obtain ⟨P, hP⟩ : ∃ P, P = pw k' := ⟨_, rfl⟩
      rw [← hP] at hp hp12 hpp HXX HYY
      clear hP hx hy hxl hyl hxyl hv HB
      go_enter Try.func5, Try.ntmps5
      go_wp2_with fail
      refine (encode_any _ _ _ _).mono ?_
      rw [HE.out]
      rintro e w' ⟨rfl, rfl⟩
      simp only [two]
      go_wp2_with fail
      refine (encode_any _ _ _ _).mono ?_
      rw [HE.out]
      rintro e w' ⟨rfl, rfl⟩
      simp only [two]
      go_wp2_with fail
      refine (encode_any _ _ _ _).mono ?_
      rw [HE.out]
      rintro e w' ⟨rfl, rfl⟩
      simp only [two]
      go_wp2_with fail
      refine (examples_any _).mono ?_
      rintro e w' ⟨rfl, rfl⟩
      go_wp2_with fail
      go_ret
      exact ⟨rfl, Ext.refl _⟩

set_option maxRecDepth 100000 in
theorem bchLinear_lifted (os : Os) (started : os.Started) (H : Type) (enc : TypeId × Value → H) :
    ReturnsInHanded {} Try.checked os 5 .any (Rows.bchLinearSpec.pre6 enc Try.prog Try.f5 Rows.bchLinearRow.domain false) (Rows.bchLinearSpec.post enc Try.prog Try.f5 false true false false) := by
  refine returnsInHanded_of_change (C := Try.checked) Try.own started (by kernel_rfl) Try.func5
    (ChangeSpec.witness6 (enc := enc) (C := Try.checked) false ⟨#[], #[.int .u16 0, .int .u16 0, .int .i64 0, .int .i64 0], []⟩ 8 (by kernel_rfl) (by kernel_rfl) (by kernel_rfl) (by kernel_rfl)) ?_
  intro W base args ds gs before hval0 hW _ _
  have hval : ∀ (j : Nat) t v, Try.f5.params[j]? = some t → args[j]? = some v → Value.okWide Try.prog W .any base t v := hval0
  have hW' := hW
  obtain ⟨p, q, hA0, hV, rfl, _, _⟩ := hW
  have hA : DataW.TrodAll enc Try.prog W 0 (fun _ => true) true Try.f5.params.toList args.toList ds p := hA0
  rw [Try.params5] at hA hval
  obtain ⟨rfl, rfl⟩ := trodVars_none hV
  clear hA0 hval0
  simp only [List.append_nil] at hW'
  have hlt : ∀ x ∈ p, x.block < W.heap.size := fun x hx => by simpa using hW'.lt x hx
  have hstay : ∀ W', Below W.heap.size W W' → _ := fun W' hb => args_stay (enc := enc) Try.laidOut hb _ _ _ _ (by kernel_rfl) hA hlt
  obtain ⟨v0, v1, v2, v3, d0, d1, d2, d3, p0, p1, p2, p3, rfl, rfl, rfl, h0, h1, h2, h3⟩ := trodAll_four hA
  obtain ⟨x0, rfl, rfl, rfl, wx0⟩ := open_int Try.underlying30 (hval 0 30 v0 rfl rfl) h0
  obtain ⟨x1, rfl, rfl, rfl, wx1⟩ := open_int Try.underlying30 (hval 1 30 v1 rfl rfl) h1
  obtain ⟨x2, rfl, rfl, rfl, wx2⟩ := open_int Try.underlying3 (hval 2 3 v2 rfl rfl) h2
  obtain ⟨x3, rfl, rfl, rfl, wx3⟩ := open_int Try.underlying3 (hval 3 3 v3 rfl rfl) h3
  refine (bchLinear_walk x0 x1 x2 x3 W (wf_u16_bd wx0) (wf_u16_bd wx1) (wf_i64_bd wx2) (wf_i64_bd wx3)).mono fun e W' ⟨he, hb⟩ => ?_
  subst he
  exact ⟨_, rfl, _, _, _, [], _, [], hW', trodAll_mk1 (shut_bool Try.underlying4 _), hstay W' hb, rfl, hb.frame _, fun h => by cases h⟩

theorem bchLinear_holds : Rows.BchLinearSaid :=
  OpenClaim.holds_of_wide 5 Try.f5 rfl rfl rfl rfl rfl rfl rfl ⟨rfl, rfl, rfl, rfl, rfl⟩ rfl rfl rfl rfl rfl (by kernel_rfl) Try.func5 (by kernel_rfl)
    (of_decide_eq_true (by kernel_rfl)) (by unfold Func.isWrapper; first | (rw [if_pos (by decide +kernel)]; kernel_rfl) | (rw [if_neg (by decide +kernel)]; exact ⟨rfl, rfl⟩))
    (fun os started H enc _ => bchLinear_lifted os started H enc)


end Go.Proofs.Ytddlklnmmnohhaa
