/-
  Contracts of Decode, the package's and the reference's.
  Conditions: none for the last of each; the numbers are small in the others.
-/
import Derived.Test.YtddlklnmmnohhaaBchF
import Derived.Deep.LoopGhost
import Derived.WalkMore
namespace Go.Proofs.Ytddlklnmmnohhaa
open Go.RowKit Go.Bs Go.Bch

set_option maxRecDepth 20000 in
set_option maxHeartbeats 800000 in
theorem decode_ok (x k g : Nat) (w : World) (hval : valP k g) (hx : x < pw (k + g.log2)) :
    Calls Try.prog 16 #[.int .i64 x, .int .i64 k, .int .i64 g] w fun e w' => e = .returned (three (decN x k g)) ∧ w = w' := by
  have HV := Lib.hid hval
  have hk1 : 1 ≤ k := by have := hval.1; omega
  have hk : k ≤ 12 := by have := hval.2.1; omega
  have hg1 : 3 ≤ g := by have := hval.2.2.1; omega
  have hg2 : g < 524288 := by have := hval.2.2.2.1; omega
  clear hval
  have hb := deg_bd g hg1 hg2
  have hd31 := dist_le k g
  have hd0 := dist_pos k g hk hg1
  have hp := one_shl k (by omega)
  have hp12 := pw_le k 12 hk
  have h12 : pw 12 = 4096 := rfl
  rw [h12] at hp12
  have hq := one_shl (k + g.log2) (by omega)
  have hq30 := pw_le (k + g.log2) 30 (by omega)
  have h30 : pw 30 = 1073741824 := rfl
  rw [h30] at hq30
  have HR := Lib.hid (decN_eq x k g)
  obtain ⟨P, hP⟩ : ∃ P, P = pw k := ⟨_, rfl⟩
  obtain ⟨Q, hQ⟩ : ∃ Q, Q = pw (k + g.log2) := ⟨_, rfl⟩
  obtain ⟨D, hD⟩ : ∃ D, D = dist k g := ⟨_, rfl⟩
  obtain ⟨R, hR⟩ : ∃ R, R = decN x k g := ⟨_, rfl⟩
  rw [← hP] at hp hp12 HR
  rw [← hQ] at hx hq hq30
  rw [← hD] at hd31 hd0 HR
  rw [← hR] at HR ⊢
  have HD := Lib.hid hD
  clear hP hQ hD hR h12 h30
  obtain ⟨d, hd⟩ : ∃ d, d = g.log2 := ⟨_, rfl⟩
  rw [← hd] at hb hq
  have HDG := Lib.hid hd
  clear hd
  go_enter Try.func16, Try.ntmps16
  go_wp2_with fail
  go_step3
  go_wp2_with fail
  refine (valid_yes _ _ _ HV.out).mono ?_
  rintro e w' ⟨rfl, rfl⟩
  go_wp2_with fail
  refine (degree_pos g _ (by omega) (by omega)).mono ?_
  rw [← HDG.out]
  rintro e w' ⟨rfl, rfl⟩
  go_wp2_with fail
  refine (minimum_any k g _ hk1 hk hg1 hg2).mono ?_
  rw [← HD.out]
  rintro e w' ⟨rfl, rfl⟩
  have hcz : ((D : Int) - 1) / 2 = (((D - 1) / 2 : Nat) : Int) := by omega
  obtain ⟨cap, hcap⟩ : ∃ cap, cap = (D - 1) / 2 := ⟨_, rfl⟩
  rw [← hcap] at hcz HR
  have hc31 : cap ≤ 31 := by omega
  have HCZ := Lib.hid hcz
  clear hcap hcz
  go_wp2_with fail
  go_step3
  rw [HCZ.out]
  go_wp2_with fail
  rw [hp]
  clear hp
  go_loopg [6, 7, 8, 35] P (fun n r6 r7 r8 y wx => ∃ i : Nat, n + i = P ∧ Hid (R = decFrom x g cap n i) ∧ r6 = .int .i64 0 ∧ r7 = .int .i64 0 ∧ r8 = .int .i64 0 ∧ y = .int .i64 i ∧ w = wx)
  case atStart => exact ⟨0, rfl, HR, rfl, rfl, rfl, rfl, rfl⟩
  case round =>
    obtain ⟨i, hi, HRI, rfl, rfl, rfl, rfl, rfl⟩ := hrel
    cases gk with
    | zero =>
      have HRZ : Hid (R = (0, 0, 17)) := by show _ = _; rw [HRI.out]; rfl
      go_wp2_with fail
      rw [Exit.noGoto_ret]
      go_ret3
      exact ⟨by rw [HRZ.out]; rfl, rfl⟩
    | succ n =>
      have hil : i < P := by omega
      have hcl : cw i g < 1073741824 := by
        have := cw_lt g i 12 hg1 (by omega) (by omega)
        have h3 := pow2_le (12 + g.log2) 30 (by have := HDG.out; omega)
        exact Nat.lt_of_lt_of_le this h3
      have hxl : x < 1073741824 := by omega
      obtain ⟨c, hc⟩ : ∃ c, c = cw i g ^^^ x := ⟨_, rfl⟩
      have hcb : c < 1073741824 := by rw [hc]; exact Nat.xor_lt_two_pow (n := 30) hcl hxl
      have HX : Hid (bits .xor .i64 (x : Int) (cw i g : Int) = (c : Int)) := by
        show _ = _
        rw [i64_xor_nat _ _ (by omega) (by omega), hc, Nat.xor_comm]
      have HY : Hid (wt c ≤ cap → R = ((i : Int), (wt c : Int), 0)) := by
        intro h; rw [HRI.out, hc]; exact decFrom_yes _ _ _ _ _ (by rw [← hc]; exact h)
      have HN : Hid (¬ wt c ≤ cap → R = decFrom x g cap n (i + 1)) := by
        intro h; rw [HRI.out]; exact decFrom_no _ _ _ _ _ (by rw [← hc]; exact h)
      have HW : Hid (0 + wt c = wt c) := by show _ = _; omega
      clear hc
      go_wp2_with fail
      refine (codeword_any i g _ (by omega) hg1 hg2).mono ?_
      rintro e w' ⟨rfl, rfl⟩
      go_wp2_with fail
      rw [HX.out]
      go_loopg [11, 12] c (fun m f y wx => ∃ fo r : Nat, r ≤ m ∧ fo ≤ cap ∧ r < 1073741824 ∧ Hid (fo + wt r = wt c) ∧ f = .int .i64 fo ∧ y = .int .i64 r ∧ w = wx)
      case atStart => exact ⟨0, c, Nat.le_refl _, by omega, hcb, HW, rfl, rfl, rfl⟩
      case round =>
        obtain ⟨fo, r, hrm, hfo, hr, HF, rfl, rfl, rfl⟩ := hrel
        by_cases hr0 : r = 0
        · subst hr0
          have hwc : wt c = fo := by have := HF.out; rw [wt_zero] at this; omega
          have HRF : Hid (R = ((i : Int), (fo : Int), 0)) := by show _ = _; rw [HY.out (by omega), hwc]
          clear hwc
          go_wp2_with fail
          rw [Exit.noGoto_ret]
          go_ret3
          exact ⟨by rw [HRF.out]; rfl, rfl⟩
        · have hrp : 0 < r := by omega
          have hrz : ((r : Int) == 0) = false := by rw [beq_eq_false_iff_ne]; omega
          have hcl2 := wt_clear r hrp
          have hle : r &&& (r - 1) ≤ r - 1 := Nat.and_le_right
          by_cases hfc : fo < cap
          · have HF2 : Hid (fo + 1 + wt (r &&& (r - 1)) = wt c) := by have := HF.out; show _ = _; omega
            have HA : Hid (bits .and .i64 (r : Int) ((r : Int) - 1) = ((r &&& (r - 1) : Nat) : Int)) := by
              show _ = _
              rw [show (r : Int) - 1 = ((r - 1 : Nat) : Int) from by omega, i64_and_nat _ _ (by omega) (by omega)]
            clear hcl2
            go_wp2_with fail
            go_roundg (r - 1)
            case measure => omega
            case rel => exact ⟨fo + 1, r &&& (r - 1), by omega, by omega, by omega, HF2, int_eq (by omega), int_eq HA.out, rfl⟩
          · have HRN : Hid (R = decFrom x g cap n (i + 1)) := HN.out (by have := HF.out; omega)
            clear hcl2 hle
            go_wp2_with fail
            go_roundg n
            case measure => omega
            case rel => exact ⟨i + 1, by omega, HRN, rfl, rfl, rfl, int_eq (by omega), rfl⟩

set_option maxRecDepth 20000 in
set_option maxHeartbeats 800000 in
theorem rdecode_ok (x k g : Nat) (w : World) (hval : valP k g) (hx : x < pw (k + g.log2)) :
    Calls Try.prog 17 #[.int .i64 x, .int .i64 k, .int .i64 g] w fun e w' => e = .returned (three (decN x k g)) ∧ w = w' := by
  have HV := Lib.hid hval
  have hk1 : 1 ≤ k := by have := hval.1; omega
  have hk : k ≤ 12 := by have := hval.2.1; omega
  have hg1 : 3 ≤ g := by have := hval.2.2.1; omega
  have hg2 : g < 524288 := by have := hval.2.2.2.1; omega
  clear hval
  have hb := deg_bd g hg1 hg2
  have hd31 := dist_le k g
  have hd0 := dist_pos k g hk hg1
  have hp12 := pw_le k 12 hk
  have h12 : pw 12 = 4096 := rfl
  rw [h12] at hp12
  have hq30 := pw_le (k + g.log2) 30 (by omega)
  have h30 : pw 30 = 1073741824 := rfl
  rw [h30] at hq30
  have HR := Lib.hid (decN_eq x k g)
  obtain ⟨d, hd⟩ : ∃ d, d = g.log2 := ⟨_, rfl⟩
  rw [← hd] at hb hx hq30
  obtain ⟨P, hP⟩ : ∃ P, P = pw k := ⟨_, rfl⟩
  obtain ⟨Q, hQ⟩ : ∃ Q, Q = pw (k + d) := ⟨_, rfl⟩
  obtain ⟨D, hD⟩ : ∃ D, D = dist k g := ⟨_, rfl⟩
  obtain ⟨R, hR⟩ : ∃ R, R = decN x k g := ⟨_, rfl⟩
  rw [← hP] at hp12 HR
  rw [← hQ] at hx hq30
  rw [← hD] at hd31 hd0 HR
  rw [← hR] at HR ⊢
  have HD := Lib.hid hD
  have HP := Lib.hid hP
  have HQ := Lib.hid hQ
  have HDG := Lib.hid hd
  clear hP hQ hD hR h12 h30 hd
  have hcz : ((D : Int) - 1) / 2 = (((D - 1) / 2 : Nat) : Int) := by omega
  obtain ⟨cap, hcap⟩ : ∃ cap, cap = (D - 1) / 2 := ⟨_, rfl⟩
  rw [← hcap] at hcz HR
  have hc31 : cap ≤ 31 := by omega
  have hc1 : 2 * cap < D := by omega
  have hc2 : D ≤ 2 * cap + 2 := by omega
  have HCZ := Lib.hid hcz
  clear hcap hcz
  have hnq : ¬ (Q ≤ x) := by omega
  go_enter Try.func17, Try.ntmps17
  go_wp2_with fail
  refine (right_yes _ _ _ HV.out).mono ?_
  rintro e w' ⟨rfl, rfl⟩
  go_wp2_with fail
  refine (rdegree_any g _ (by omega) (by omega)).mono ?_
  rw [← HDG.out]
  rintro e w' ⟨rfl, rfl⟩
  go_wp2_with fail
  refine (power_any (k + d) _ (by omega)).mono ?_
  rw [← HQ.out]
  rintro e w' ⟨rfl, rfl⟩
  go_wp2_with fail
  refine (rdistance_ok k g _ HV.out).mono ?_
  rw [← HD.out]
  rintro e w' ⟨rfl, rfl⟩
  simp only [two]
  go_wp2_with fail
  go_loopg [6, 7, 8, 11] P (fun n r6 r7 r8 y wx => ∃ i : Nat, n + i = P ∧ Hid (R = decFrom x g cap n i) ∧ r6 = .int .i64 0 ∧ r7 = .int .i64 0 ∧ r8 = .int .i64 0 ∧ y = .int .i64 i ∧ w = wx)
  case atStart => exact ⟨0, rfl, HR, rfl, rfl, rfl, rfl, rfl⟩
  case round =>
    obtain ⟨i, hi, HRI, rfl, rfl, rfl, rfl, rfl⟩ := hrel
    cases gk with
    | zero =>
      have HRZ : Hid (R = (0, 0, 17)) := by show _ = _; rw [HRI.out]; rfl
      go_wp2_with fail
      refine (power_any k _ (by omega)).mono ?_
      rw [← HP.out]
      rintro e w' ⟨rfl, rfl⟩
      go_wp2_with fail
      go_ret3
      exact ⟨by rw [HRZ.out]; rfl, rfl⟩
    | succ n =>
      have hil : i < P := by omega
      have hcl : cw i g < 1073741824 := by
        have := cw_lt g i 12 hg1 (by omega) (by omega)
        have h3 := pow2_le (12 + g.log2) 30 (by have := HDG.out; omega)
        exact Nat.lt_of_lt_of_le this h3
      have hxl : x < 1073741824 := by omega
      obtain ⟨c, hc⟩ : ∃ c, c = cw i g ^^^ x := ⟨_, rfl⟩
      have hcb : c < 1073741824 := by rw [hc]; exact Nat.xor_lt_two_pow (n := 30) hcl hxl
      have HX : Hid (bits .xor .i64 (cw i g : Int) (x : Int) = (c : Int)) := by
        show _ = _
        rw [i64_xor_nat _ _ (by omega) (by omega), hc]
      have HY : Hid (wt c ≤ cap → R = ((i : Int), (wt c : Int), 0)) := by
        intro h; rw [HRI.out, hc]; exact decFrom_yes _ _ _ _ _ (by rw [← hc]; exact h)
      have HN : Hid (¬ wt c ≤ cap → R = decFrom x g cap n (i + 1)) := by
        intro h; rw [HRI.out]; exact decFrom_no _ _ _ _ _ (by rw [← hc]; exact h)
      have hwl := wt_lt 30 _ hcb
      clear hc
      go_wp2_with fail
      refine (power_any k _ (by omega)).mono ?_
      rw [← HP.out]
      rintro e w' ⟨rfl, rfl⟩
      go_wp2_with fail
      refine (rcodeword_any i g _ (by omega) hg1 hg2).mono ?_
      rintro e w' ⟨rfl, rfl⟩
      go_wp2_with fail
      rw [HX.out]
      refine (weight_any c _ (by omega)).mono ?_
      rintro e w' ⟨rfl, rfl⟩
      by_cases hwc : wt c ≤ cap
      · have HRF : Hid (R = ((i : Int), (wt c : Int), 0)) := HY.out hwc
        have hq : (wt c : Int) ≤ ((D : Int) - 1) / 2 := by omega
        go_wp2_with fail
        go_ret3
        exact ⟨by rw [HRF.out]; rfl, rfl⟩
      · have HRF : Hid (R = decFrom x g cap n (i + 1)) := HN.out hwc
        have hq : ((D : Int) - 1) / 2 < (wt c : Int) := by omega
        go_wp2_with fail
        go_roundg n
        case measure => omega
        case rel => exact ⟨i + 1, by omega, HRF, rfl, rfl, rfl, int_eq (by omega), rfl⟩

set_option maxRecDepth 20000 in
set_option maxHeartbeats 400000 in
theorem decode_any (x k g : Int) (w : World) :
    Calls Try.prog 16 #[.int .i64 x, .int .i64 k, .int .i64 g] w fun e w' => e = .returned (three (decRes x k g)) ∧ w = w' := by
  by_cases hv : valP k g
  · obtain ⟨k', g', rfl, rfl⟩ := nats hv
    have HV := Lib.hid hv
    obtain ⟨h1, h2, h3, h4, h5⟩ := hv
    clear h5
    have hb := deg_bd g' (by omega) (by omega)
    by_cases hn : x < 0 ∨ (pw (k' + g'.log2) : Int) ≤ x
    · rw [decRes_2 HV.out hn]
      have hq := one_shl (k' + g'.log2) (by omega)
      obtain ⟨Q, hQ⟩ : ∃ Q, Q = pw (k' + g'.log2) := ⟨_, rfl⟩
      rw [← hQ] at hq hn
      clear hQ
      obtain ⟨d, hd⟩ : ∃ d, d = g'.log2 := ⟨_, rfl⟩
      rw [← hd] at hb hq
      have HDG := Lib.hid hd
      clear hd
      rcases Int.lt_or_le x 0 with hx0 | hx0
      · clear hn hq
        go_enter Try.func16, Try.ntmps16
        go_wp2_with fail
        go_step3
        go_wp2_with fail
        refine (valid_yes _ _ _ HV.out).mono ?_
        rintro e w' ⟨rfl, rfl⟩
        go_wp2_with fail
        rw [Exit.noGoto_ret]
        go_ret3
        exact ⟨rfl, rfl⟩
      · have hxq : (Q : Int) ≤ x := by omega
        clear hn
        go_enter Try.func16, Try.ntmps16
        go_wp2_with fail
        go_step3
        go_wp2_with fail
        refine (valid_yes _ _ _ HV.out).mono ?_
        rintro e w' ⟨rfl, rfl⟩
        go_wp2_with fail
        refine (degree_pos g' _ (by omega) (by omega)).mono ?_
        rw [← HDG.out]
        rintro e w' ⟨rfl, rfl⟩
        go_wp2_with fail
        rw [Exit.noGoto_ret]
        go_ret3
        exact ⟨rfl, rfl⟩
    · rw [decRes_3 HV.out hn]
      obtain ⟨x', rfl⟩ : ∃ x' : Nat, x = x' := ⟨x.toNat, by omega⟩
      exact decode_ok x' k' g' w HV.out (by omega)
  · rw [decRes_1 hv]
    go_enter Try.func16, Try.ntmps16
    go_wp2_with fail
    go_step3
    go_wp2_with fail
    refine (valid_no _ _ _ hv).mono ?_
    rintro e w' ⟨rfl, rfl⟩
    go_wp2_with fail
    rw [Exit.noGoto_ret]
    go_ret3
    exact ⟨rfl, rfl⟩

set_option maxRecDepth 20000 in
set_option maxHeartbeats 400000 in
theorem rdecode_any (x k g : Int) (w : World) :
    Calls Try.prog 17 #[.int .i64 x, .int .i64 k, .int .i64 g] w fun e w' => e = .returned (three (decRes x k g)) ∧ w = w' := by
  by_cases hv : valP k g
  · obtain ⟨k', g', rfl, rfl⟩ := nats hv
    have HV := Lib.hid hv
    obtain ⟨h1, h2, h3, h4, h5⟩ := hv
    clear h5
    have hb := deg_bd g' (by omega) (by omega)
    by_cases hn : x < 0 ∨ (pw (k' + g'.log2) : Int) ≤ x
    · rw [decRes_2 HV.out hn]
      have hq30 := pw_le (k' + g'.log2) 30 (by omega)
      have h30 : pw 30 = 1073741824 := rfl
      rw [h30] at hq30
      obtain ⟨d, hd⟩ : ∃ d, d = g'.log2 := ⟨_, rfl⟩
      rw [← hd] at hb hn hq30
      have HDG := Lib.hid hd
      obtain ⟨Q, hQ⟩ : ∃ Q, Q = pw (k' + d) := ⟨_, rfl⟩
      rw [← hQ] at hn hq30
      have HQ := Lib.hid hQ
      clear hQ hd h30
      rcases Int.lt_or_le x 0 with hx0 | hx0
      · clear hn
        go_enter Try.func17, Try.ntmps17
        go_wp2_with fail
        refine (right_yes _ _ _ HV.out).mono ?_
        rintro e w' ⟨rfl, rfl⟩
        go_wp2_with fail
        go_ret3
        exact ⟨rfl, rfl⟩
      · have hxq : (Q : Int) ≤ x := by omega
        clear hn
        go_enter Try.func17, Try.ntmps17
        go_wp2_with fail
        refine (right_yes _ _ _ HV.out).mono ?_
        rintro e w' ⟨rfl, rfl⟩
        go_wp2_with fail
        refine (rdegree_any g' _ (by omega) (by omega)).mono ?_
        rw [← HDG.out]
        rintro e w' ⟨rfl, rfl⟩
        go_wp2_with fail
        refine (power_any (k' + d) _ (by omega)).mono ?_
        rw [← HQ.out]
        rintro e w' ⟨rfl, rfl⟩
        go_wp2_with fail
        go_ret3
        exact ⟨rfl, rfl⟩
    · rw [decRes_3 HV.out hn]
      obtain ⟨x', rfl⟩ : ∃ x' : Nat, x = x' := ⟨x.toNat, by omega⟩
      exact rdecode_ok x' k' g' w HV.out (by omega)
  · rw [decRes_1 hv]
    go_enter Try.func17, Try.ntmps17
    go_wp2_with fail
    refine (right_no _ _ _ hv).mono ?_
    rintro e w' ⟨rfl, rfl⟩
    go_wp2_with fail
    go_ret3
    exact ⟨rfl, rfl⟩

end Go.Proofs.Ytddlklnmmnohhaa
