/-
  For every input BchCorrects returns true, and each argument reads afterwards as it read before (Rows.BchCorrectsSaid).
  No condition.
-/
import Derived.Test.YtddlklnmmnohhaaBchBase
namespace Go.Proofs.Ytddlklnmmnohhaa
open Go.RowKit Go.Bs Go.ChangeShapes Go.WideShapes Go.ChangeAt Go.Joins Go.Bch

set_option maxRecDepth 20000 in
set_option maxHeartbeats 1000000 in
theorem bchCorrects_walk (a b k g : Int) (w : World) (ha : 0 ≤ a ∧ a ≤ 65535) (hb : 0 ≤ b ∧ b ≤ 4294967295) (_ : -9223372036854775808 ≤ k ∧ k ≤ 9223372036854775807) (hg : -9223372036854775808 ≤ g ∧ g ≤ 9223372036854775807) :
    Calls Try.prog 6 #[.int .u16 a, .int .u32 b, .int .i64 k, .int .i64 g] w fun e w' => e = .returned (.bool true) ∧ Ext w w' := by
  by_cases hv : valP k g
  · obtain ⟨k', g', rfl, rfl⟩ := nats hv
    obtain ⟨a', rfl⟩ : ∃ a' : Nat, a = a' := ⟨a.toNat, by omega⟩
    obtain ⟨b', rfl⟩ : ∃ b' : Nat, b = b' := ⟨b.toNat, by omega⟩
    have HV := Lib.hid hv
    have HDI : Hid (distRes (k' : Int) (g' : Int) = ((dist k' g' : Int), 0)) := by show _ = _; unfold distRes; rw [if_pos hv]; rfl
    obtain ⟨h1, h2, h3, h4, h5⟩ := hv
    clear h5
    have hd := deg_bd g' (by omega) (by omega)
    have hp := one_shl k' (by omega)
    have hq := one_shl (k' + g'.log2) (by omega)
    have hp12 := pw_le k' 12 (by omega)
    have h12 : pw 12 = 4096 := rfl
    rw [h12] at hp12
    have hq30 := pw_le (k' + g'.log2) 30 (by omega)
    have h30 : pw 30 = 1073741824 := rfl
    rw [h30] at hq30
    have hpp := pw_pos k'
    have hqp := pw_pos (k' + g'.log2)
    obtain ⟨x, hx⟩ : ∃ x, x = a' % pw k' := ⟨_, rfl⟩
    obtain ⟨y, hy⟩ : ∃ y, y = b' % pw (k' + g'.log2) := ⟨_, rfl⟩
    have hxl : x < pw k' := by rw [hx]; exact Nat.mod_lt _ hpp
    have hyl : y < pw (k' + g'.log2) := by rw [hy]; exact Nat.mod_lt _ hqp
    have HXX : Hid ((a' : Int) % (pw k' : Int) = (x : Int)) := by show _ = _; rw [hx]; exact (Int.natCast_emod _ _).symm
    have HYY : Hid ((b' : Int) % (pw (k' + g'.log2) : Int) = (y : Int)) := by show _ = _; rw [hy]; exact (Int.natCast_emod _ _).symm
    have hcl := cw_lt30 x g' (by omega) (by omega) (by omega)
    have HE : Hid (encRes (x : Int) (k' : Int) (g' : Int) = ((cw x g' : Int), 0)) := encRes_3 HV.out (by show ¬ ((x : Int) < 0 ∨ (pw k' : Int) ≤ (x : Int)); omega)
    have HX : Hid (bits .xor .i64 (cw x g' : Int) (y : Int) = ((cw x g' ^^^ y : Nat) : Int)) := i64_xor_nat _ _ (by omega) (by omega)
    have hcq : cw x g' ^^^ y < pw (k' + g'.log2) := Nat.xor_lt_two_pow (n := k' + g'.log2) (cw_lt g' x k' (by omega) hxl (by omega)) hyl
    have hyx : cw x g' ^^^ (cw x g' ^^^ y) = y := by rw [← Nat.xor_assoc, Nat.xor_self, Nat.zero_xor]
    have HDD : Hid (2 * wt y < dist k' g' → decRes ((cw x g' ^^^ y : Nat) : Int) (k' : Int) (g' : Int) = ((x : Int), (wt y : Int), 0)) := by
      intro h
      rw [decRes_3 HV.out (by show ¬ (((cw x g' ^^^ y : Nat) : Int) < 0 ∨ (pw (k' + g'.log2) : Int) ≤ ((cw x g' ^^^ y : Nat) : Int)); omega)]
      have := decN_at (cw x g' ^^^ y) k' g' x (by omega) (by omega) hxl (by rw [hyx]; exact h)
      rw [hyx] at this
      exact this
    have hyb : y < 1073741824 := by omega
    have hwy := wt_lt 30 y hyb
    have hd31 := dist_le k' g'
    obtain ⟨n, hn⟩ : ∃ n, n = wt y := ⟨_, rfl⟩
    rw [← hn] at hwy HDD
    have HN := Lib.hid hn
    obtain ⟨D, hD⟩ : ∃ D, D = dist k' g' := ⟨_, rfl⟩
    rw [← hD] at hd31 HDD HDI
    obtain ⟨P, hP⟩ : ∃ P, P = pw k' := ⟨_, rfl⟩
    rw [← hP] at hp hp12 hpp HXX
    obtain ⟨Q, hQ⟩ : ∃ Q, Q = pw (k' + g'.log2) := ⟨_, rfl⟩
    rw [← hQ] at hq hq30 hqp HYY
    obtain ⟨d, hdd⟩ : ∃ d, d = g'.log2 := ⟨_, rfl⟩
    rw [← hdd] at hd hq
    have HDG := Lib.hid hdd
    clear hn hD hP hQ hx hy hxl hyl hcq hyx h12 h30 hdd
    have hqne : ¬ wrap64 (2 ^ (k' + d)) = 0 := by rw [hq]; exact Int.natCast_ne_zero.2 (Nat.pos_iff_ne_zero.1 hqp)
    have HQ := Lib.hid hq
    have HYB := Lib.hid hyb
    clear hq hq30 hqp hyb hcl
    by_cases hc : 2 * n < D
    · have HDX := Lib.hid (HDD.out hc)
      clear HDD
      go_enter Try.func6, Try.ntmps6
      go_wp2_with fail
      refine (distance_any _ _ _).mono ?_
      rw [HDI.out]
      rintro e w' ⟨rfl, rfl⟩
      simp only [two]
      go_wp2_with fail
      refine (ldegree_any g' _ (by omega) (by omega)).mono ?_
      rw [← HDG.out]
      rintro e w' ⟨rfl, rfl⟩
      rw [HXX.out]
      go_wp2_with fail
      rw [HQ.out, HYY.out]
      refine (ones_any y _ (by have := HYB.out; omega)).mono ?_
      rw [← HN.out]
      rintro e w' ⟨rfl, rfl⟩
      go_wp2_with fail
      refine (encode_any _ _ _ _).mono ?_
      rw [HE.out]
      rintro e w' ⟨rfl, rfl⟩
      simp only [two]
      go_wp2_with fail
      rw [HX.out]
      refine (decode_any _ _ _ _).mono ?_
      rw [HDX.out]
      rintro e w' ⟨rfl, rfl⟩
      simp only [three]
      go_wp2_with fail
      refine (examples_any _).mono ?_
      rintro e w' ⟨rfl, rfl⟩
      go_wp2_with fail
      go_ret
      exact ⟨rfl, Ext.refl _⟩
    · clear HDD
      go_enter Try.func6, Try.ntmps6
      go_wp2_with fail
      refine (distance_any _ _ _).mono ?_
      rw [HDI.out]
      rintro e w' ⟨rfl, rfl⟩
      simp only [two]
      go_wp2_with fail
      refine (ldegree_any g' _ (by omega) (by omega)).mono ?_
      rw [← HDG.out]
      rintro e w' ⟨rfl, rfl⟩
      rw [HXX.out]
      go_wp2_with fail
      rw [HQ.out, HYY.out]
      refine (ones_any y _ (by have := HYB.out; omega)).mono ?_
      rw [← HN.out]
      rintro e w' ⟨rfl, rfl⟩
      go_wp2_with fail
      refine (examples_any _).mono ?_
      rintro e w' ⟨rfl, rfl⟩
      go_wp2_with fail
      go_ret
      exact ⟨rfl, Ext.refl _⟩
  · have HE : Hid (distRes k g = (0, 1)) := by show _ = _; unfold distRes; rw [if_neg hv]
    clear hv
    go_enter Try.func6, Try.ntmps6
    go_wp2_with fail
    refine (distance_any _ _ _).mono ?_
    rw [HE.out]
    rintro e w' ⟨rfl, rfl⟩
    simp only [two]
    go_wp2_with fail
    refine (examples_any _).mono ?_
    rintro e w' ⟨rfl, rfl⟩
    go_wp2_with fail
    go_ret
    exact ⟨rfl, Ext.refl _⟩

set_option maxRecDepth 100000 in
theorem bchCorrects_lifted (os : Os) (started : os.Started) (H : Type) (enc : TypeId × Value → H) :
    ReturnsInHanded {} Try.checked os 6 .any (Rows.bchCorrectsSpec.pre6 enc Try.prog Try.f6 Rows.bchCorrectsRow.domain false) (Rows.bchCorrectsSpec.post enc Try.prog Try.f6 false true false false) := by
  refine returnsInHanded_of_change (C := Try.checked) Try.own started (by kernel_rfl) Try.func6
    (ChangeSpec.witness6 (enc := enc) (C := Try.checked) false ⟨#[], #[.int .u16 0, .int .u32 0, .int .i64 0, .int .i64 0], []⟩ 8 (by kernel_rfl) (by kernel_rfl) (by kernel_rfl) (by kernel_rfl)) ?_
  intro W base args ds gs before hval0 hW _ _
  have hval : ∀ (j : Nat) t v, Try.f6.params[j]? = some t → args[j]? = some v → Value.okWide Try.prog W .any base t v := hval0
  have hW' := hW
  obtain ⟨p, q, hA0, hV, rfl, _, _⟩ := hW
  have hA : DataW.TrodAll enc Try.prog W 0 (fun _ => true) true Try.f6.params.toList args.toList ds p := hA0
  rw [Try.params6] at hA hval
  obtain ⟨rfl, rfl⟩ := trodVars_none hV
  clear hA0 hval0
  simp only [List.append_nil] at hW'
  have hlt : ∀ x ∈ p, x.block < W.heap.size := fun x hx => by simpa using hW'.lt x hx
  have hstay : ∀ W', Below W.heap.size W W' → _ := fun W' hb => args_stay (enc := enc) Try.laidOut hb _ _ _ _ (by kernel_rfl) hA hlt
  obtain ⟨v0, v1, v2, v3, d0, d1, d2, d3, p0, p1, p2, p3, rfl, rfl, rfl, h0, h1, h2, h3⟩ := trodAll_four hA
  obtain ⟨x0, rfl, rfl, rfl, wx0⟩ := open_int Try.underlying30 (hval 0 30 v0 rfl rfl) h0
  obtain ⟨x1, rfl, rfl, rfl, wx1⟩ := open_int Try.underlying34 (hval 1 34 v1 rfl rfl) h1
  obtain ⟨x2, rfl, rfl, rfl, wx2⟩ := open_int Try.underlying3 (hval 2 3 v2 rfl rfl) h2
  obtain ⟨x3, rfl, rfl, rfl, wx3⟩ := open_int Try.underlying3 (hval 3 3 v3 rfl rfl) h3
  refine (bchCorrects_walk x0 x1 x2 x3 W (wf_u16_bd wx0) (wf_u32_bd wx1) (wf_i64_bd wx2) (wf_i64_bd wx3)).mono fun e W' ⟨he, hb⟩ => ?_
  subst he
  exact ⟨_, rfl, _, _, _, [], _, [], hW', trodAll_mk1 (shut_bool Try.underlying4 _), hstay W' hb, rfl, hb.frame _, fun h => by cases h⟩

theorem bchCorrects_holds : Rows.BchCorrectsSaid :=
  OpenClaim.holds_of_wide 6 Try.f6 rfl rfl rfl rfl rfl rfl rfl ⟨rfl, rfl, rfl, rfl, rfl⟩ rfl rfl rfl rfl rfl (by kernel_rfl) Try.func6 (by kernel_rfl)
    (of_decide_eq_true (by kernel_rfl)) (by unfold Func.isWrapper; first | (rw [if_pos (by decide +kernel)]; kernel_rfl) | (rw [if_neg (by decide +kernel)]; exact ⟨rfl, rfl⟩))
    (fun os started H enc _ => bchCorrects_lifted os started H enc)


end Go.Proofs.Ytddlklnmmnohhaa
