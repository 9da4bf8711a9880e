/-
  Contracts of bch.minimum and barscanref08.Distance, Encode, Distance.
  Conditions: the numbers are small (they stand in each contract).
  Contracts of Encode and Decode, the package's and the reference's.
  Conditions: none for the last of each; the numbers are small in the others.
  Contracts of Decode, the package's and the reference's.
  Conditions: none for the last of each; the numbers are small in the others.
  Contracts of Format and Version, the package's and the reference's; the examples.
  Conditions: none.
-/
import Derived.Test.YtjkpdhcnklgfbaaBchD
import Derived.Test.YtjkpdhcnklgfbaaCodePlain
import Derived.Deep.LoopGhost
import Derived.WalkMore
namespace Go.Proofs.Ytjkpdhcnklgfbaa
open Go.RowKit Go.Bs Go.Bch

theorem one_shl (k : Nat) (h : k ≤ 40) : wrap64 ((2 : Int) ^ k) = (pw k : Int) := by
  have e1 : (2 : Int) ^ k = (pw k : Int) := by unfold pw; rw [Int.natCast_pow]; simp
  have := pw_le k 40 h
  have h40 : pw 40 = 1099511627776 := rfl
  rw [e1]; exact IntWalk.wrap64_in _ ⟨by omega, by omega⟩

set_option maxRecDepth 20000 in
set_option maxHeartbeats 400000 in
theorem minimum_any (k g : Nat) (w : World) (hk1 : 1 ≤ k) (hk : k ≤ 12) (hg1 : 3 ≤ g) (hg2 : g < 524288) :
    Calls Try.prog 97 #[.int .i64 k, .int .i64 g] w fun e w' => e = .returned (.int .i64 (dist k g)) ∧ w = w' := by
  have hb := deg_bd g hg1 hg2
  have HD := Lib.hid (dist_same k g hk1 hk hg1 hg2)
  have hp := one_shl k (by omega)
  have hp1 := pw_le 1 k hk1
  have hp12 := pw_le k 12 hk
  have h12 : pw 12 = 4096 := rfl
  have h1' : pw 1 = 2 := rfl
  have HPW : Hid (2 ^ k = pw k) := rfl
  have hd31 := dist_le k g
  obtain ⟨P, hP⟩ : ∃ P, P = pw k := ⟨_, rfl⟩
  rw [← hP] at hp hp1 hp12 HPW
  obtain ⟨D, hD⟩ : ∃ D, D = dist k g := ⟨_, rfl⟩
  rw [← hD] at HD hd31 ⊢
  clear hP hD
  go_enter Try.func97, Try.ntmps97
  go_wp2_with fail
  refine (degree_pos g _ (by omega) (by omega)).mono ?_
  rintro e w' ⟨rfl, rfl⟩
  go_wp2_with fail
  go_loop [5, 6] (fun x y => ∃ m v : Nat, v + 1 ≤ P ∧ m ≤ 31 ∧ Hid (m = mw g (k + g.log2) v) ∧ x = .int .i64 m ∧ y = .int .i64 (v + 1 : Nat)) (fun _ y => P - (intOf y).toNat)
  case atStart => exact ⟨k + g.log2, 0, by omega, by omega, rfl, by go_num, rfl⟩
  case round =>
    obtain ⟨m, v, hv, hm, HM, rfl, rfl⟩ := hrel
    by_cases h1 : v + 1 < P
    · have hcl : cw (v + 1) g < 1073741824 := by
        have := cw_lt g (v + 1) 12 hg1 (by omega) (by omega)
        have h3 := pow2_le (12 + g.log2) 30 (by omega)
        exact Nat.lt_of_lt_of_le this h3
      have hwl := wt_lt 30 _ hcl
      have HC : Hid (min m (wt (cw (v + 1) g)) = mw g (k + g.log2) (v + 1)) := by show _ = _; rw [HM.out]; rfl
      obtain ⟨c, hc⟩ : ∃ c, c = cw (v + 1) g := ⟨_, rfl⟩
      rw [← hc] at hcl hwl HC
      have HCW := Lib.hid hc
      clear hc
      go_wp2_with fail
      refine (codeword_any (v + 1) g _ (by omega) hg1 hg2).mono ?_
      rw [← HCW.out]
      rintro e w' ⟨rfl, rfl⟩
      go_wp2_with fail
      refine (onescount_any c _ (by omega)).mono ?_
      rintro e w' ⟨rfl, rfl⟩
      go_wp2_with fail
      go_round
      case rel => exact ⟨min m (wt c), v + 1, by omega, by omega, HC, int_eq (by omega), int_eq (by omega)⟩
      case measure => simp [intOf]; omega
    · have HF : Hid (m = D) := by
        show _ = _
        rw [HM.out, ← HD.out, HPW.out, show P - 1 = v by omega]
      go_wp2_with fail
      go_ret
      exact ⟨ret_int (by rw [HF.out]), rfl⟩


theorem nats {k g : Int} (h : valP k g) : ∃ k' g' : Nat, k = k' ∧ g = g' := by
  obtain ⟨h1, h2, h3, h4, h5⟩ := h
  exact ⟨k.toNat, g.toNat, by omega, by omega⟩

def distRes (k g : Int) : Int × Int := if valP k g then (dist k.toNat g.toNat, 0) else (0, 1)

end Go.Proofs.Ytjkpdhcnklgfbaa

namespace Go.Proofs.Ytjkpdhcnklgfbaa
open Go.RowKit Go.Bs Go.Bch

def encRes (v k g : Int) : Int × Int := if valP k g then if v < 0 ∨ (pw k.toNat : Int) ≤ v then (0, 3) else (cw v.toNat g.toNat, 0) else (0, 1)
theorem encRes_1 {v k g : Int} (h : ¬ valP k g) : encRes v k g = (0, 1) := by unfold encRes; rw [if_neg h]
theorem encRes_2 {v k g : Int} (h : valP k g) (h2 : v < 0 ∨ (pw k.toNat : Int) ≤ v) : encRes v k g = (0, 3) := by unfold encRes; rw [if_pos h, if_pos h2]
theorem encRes_3 {v k g : Int} (h : valP k g) (h2 : ¬ (v < 0 ∨ (pw k.toNat : Int) ≤ v)) : encRes v k g = ((cw v.toNat g.toNat : Int), 0) := by unfold encRes; rw [if_pos h, if_neg h2]

def decRes (x k g : Int) : Int × Int × Int := if valP k g then if x < 0 ∨ (pw (k.toNat + g.toNat.log2) : Int) ≤ x then (0, 0, 3) else decN x.toNat k.toNat g.toNat else (0, 0, 1)
theorem decRes_1 {v k g : Int} (h : ¬ valP k g) : decRes v k g = (0, 0, 1) := by unfold decRes; rw [if_neg h]
theorem decRes_2 {v k g : Int} (h : valP k g) (h2 : v < 0 ∨ (pw (k.toNat + g.toNat.log2) : Int) ≤ v) : decRes v k g = (0, 0, 3) := by unfold decRes; rw [if_pos h, if_pos h2]
theorem decRes_3 {v k g : Int} (h : valP k g) (h2 : ¬ (v < 0 ∨ (pw (k.toNat + g.toNat.log2) : Int) ≤ v)) : decRes v k g = decN v.toNat k.toNat g.toNat := by unfold decRes; rw [if_pos h, if_neg h2]

/-- What the search has still to find. -/
def decFrom (word g cap n i : Nat) : Int × Int × Int :=
  match find g word cap n i with
  | none => (0, 0, 17)
  | some v => (v, wt (cw v g ^^^ word), 0)
theorem decFrom_zero (word g cap i : Nat) : decFrom word g cap 0 i = (0, 0, 17) := rfl
theorem decFrom_yes (word g cap n i : Nat) (h : wt (cw i g ^^^ word) ≤ cap) : decFrom word g cap (n + 1) i = ((i : Int), (wt (cw i g ^^^ word) : Int), 0) := by
  unfold decFrom find; rw [if_pos h]
theorem decFrom_no (word g cap n i : Nat) (h : ¬ wt (cw i g ^^^ word) ≤ cap) : decFrom word g cap (n + 1) i = decFrom word g cap n (i + 1) := by
  unfold decFrom; rw [find, if_neg h]
theorem decN_eq (word k g : Nat) : decN word k g = decFrom word g ((dist k g - 1) / 2) (pw k) 0 := rfl

end Go.Proofs.Ytjkpdhcnklgfbaa

namespace Go.Proofs.Ytjkpdhcnklgfbaa
open Go.RowKit Go.Bs Go.Bch

set_option maxRecDepth 20000 in
set_option maxHeartbeats 800000 in
theorem decode_ok (x k g : Nat) (w : World) (hval : valP k g) (hx : x < pw (k + g.log2)) :
    Calls Try.prog 93 #[.int .i64 x, .int .i64 k, .int .i64 g] w fun e w' => e = .returned (three (decN x k g)) ∧ w = w' := by
  have HV := Lib.hid hval
  have hk1 : 1 ≤ k := by have := hval.1; omega
  have hk : k ≤ 12 := by have := hval.2.1; omega
  have hg1 : 3 ≤ g := by have := hval.2.2.1; omega
  have hg2 : g < 524288 := by have := hval.2.2.2.1; omega
  clear hval
  have hb := deg_bd g hg1 hg2
  have hd31 := dist_le k g
  have hd0 := dist_pos k g hk hg1
  have hp := one_shl k (by omega)
  have hp12 := pw_le k 12 hk
  have h12 : pw 12 = 4096 := rfl
  rw [h12] at hp12
  have hq := one_shl (k + g.log2) (by omega)
  have hq30 := pw_le (k + g.log2) 30 (by omega)
  have h30 : pw 30 = 1073741824 := rfl
  rw [h30] at hq30
  have HR := Lib.hid (decN_eq x k g)
  obtain ⟨P, hP⟩ : ∃ P, P = pw k := ⟨_, rfl⟩
  obtain ⟨Q, hQ⟩ : ∃ Q, Q = pw (k + g.log2) := ⟨_, rfl⟩
  obtain ⟨D, hD⟩ : ∃ D, D = dist k g := ⟨_, rfl⟩
  obtain ⟨R, hR⟩ : ∃ R, R = decN x k g := ⟨_, rfl⟩
  rw [← hP] at hp hp12 HR
  rw [← hQ] at hx hq hq30
  rw [← hD] at hd31 hd0 HR
  rw [← hR] at HR ⊢
  have HD := Lib.hid hD
  clear hP hQ hD hR h12 h30
  obtain ⟨d, hd⟩ : ∃ d, d = g.log2 := ⟨_, rfl⟩
  rw [← hd] at hb hq
  have HDG := Lib.hid hd
  clear hd
  go_enter Try.func93, Try.ntmps93
  go_wp2_with fail
  go_step3
  go_wp2_with fail
  refine (valid_yes _ _ _ HV.out).mono ?_
  rintro e w' ⟨rfl, rfl⟩
  go_wp2_with fail
  refine (degree_pos g _ (by omega) (by omega)).mono ?_
  rw [← HDG.out]
  rintro e w' ⟨rfl, rfl⟩
  go_wp2_with fail
  refine (minimum_any k g _ hk1 hk hg1 hg2).mono ?_
  rw [← HD.out]
  rintro e w' ⟨rfl, rfl⟩
  have hcz : ((D : Int) - 1) / 2 = (((D - 1) / 2 : Nat) : Int) := by omega
  obtain ⟨cap, hcap⟩ : ∃ cap, cap = (D - 1) / 2 := ⟨_, rfl⟩
  rw [← hcap] at hcz HR
  have hc31 : cap ≤ 31 := by omega
  have HCZ := Lib.hid hcz
  clear hcap hcz
  go_wp2_with fail
  go_step3
  rw [HCZ.out]
  go_wp2_with fail
  rw [hp]
  clear hp
  go_loopg [6, 7, 8, 35] P (fun n r6 r7 r8 y wx => ∃ i : Nat, n + i = P ∧ Hid (R = decFrom x g cap n i) ∧ r6 = .int .i64 0 ∧ r7 = .int .i64 0 ∧ r8 = .int .i64 0 ∧ y = .int .i64 i ∧ w = wx)
  case atStart => exact ⟨0, rfl, HR, rfl, rfl, rfl, rfl, rfl⟩
  case round =>
    obtain ⟨i, hi, HRI, rfl, rfl, rfl, rfl, rfl⟩ := hrel
    cases gk with
    | zero =>
      have HRZ : Hid (R = (0, 0, 17)) := by show _ = _; rw [HRI.out]; rfl
      go_wp2_with fail
      rw [Exit.noGoto_ret]
      go_ret3
      exact ⟨by rw [HRZ.out]; rfl, rfl⟩
    | succ n =>
      have hil : i < P := by omega
      have hcl : cw i g < 1073741824 := by
        have := cw_lt g i 12 hg1 (by omega) (by omega)
        have h3 := pow2_le (12 + g.log2) 30 (by have := HDG.out; omega)
        exact Nat.lt_of_lt_of_le this h3
      have hxl : x < 1073741824 := by omega
      obtain ⟨c, hc⟩ : ∃ c, c = cw i g ^^^ x := ⟨_, rfl⟩
      have hcb : c < 1073741824 := by rw [hc]; exact Nat.xor_lt_two_pow (n := 30) hcl hxl
      have HX : Hid (bits .xor .i64 (x : Int) (cw i g : Int) = (c : Int)) := by
        show _ = _
        rw [i64_xor_nat _ _ (by omega) (by omega), hc, Nat.xor_comm]
      have HY : Hid (wt c ≤ cap → R = ((i : Int), (wt c : Int), 0)) := by
        intro h; rw [HRI.out, hc]; exact decFrom_yes _ _ _ _ _ (by rw [← hc]; exact h)
      have HN : Hid (¬ wt c ≤ cap → R = decFrom x g cap n (i + 1)) := by
        intro h; rw [HRI.out]; exact decFrom_no _ _ _ _ _ (by rw [← hc]; exact h)
      have HW : Hid (0 + wt c = wt c) := by show _ = _; omega
      clear hc
      go_wp2_with fail
      refine (codeword_any i g _ (by omega) hg1 hg2).mono ?_
      rintro e w' ⟨rfl, rfl⟩
      go_wp2_with fail
      rw [HX.out]
      go_loopg [11, 12] c (fun m f y wx => ∃ fo r : Nat, r ≤ m ∧ fo ≤ cap ∧ r < 1073741824 ∧ Hid (fo + wt r = wt c) ∧ f = .int .i64 fo ∧ y = .int .i64 r ∧ w = wx)
      case atStart => exact ⟨0, c, Nat.le_refl _, by omega, hcb, HW, rfl, rfl, rfl⟩
      case round =>
        obtain ⟨fo, r, hrm, hfo, hr, HF, rfl, rfl, rfl⟩ := hrel
        by_cases hr0 : r = 0
        · subst hr0
          have hwc : wt c = fo := by have := HF.out; rw [wt_zero] at this; omega
          have HRF : Hid (R = ((i : Int), (fo : Int), 0)) := by show _ = _; rw [HY.out (by omega), hwc]
          clear hwc
          go_wp2_with fail
          rw [Exit.noGoto_ret]
          go_ret3
          exact ⟨by rw [HRF.out]; rfl, rfl⟩
        · have hrp : 0 < r := by omega
          have hrz : ((r : Int) == 0) = false := by rw [beq_eq_false_iff_ne]; omega
          have hcl2 := wt_clear r hrp
          have hle : r &&& (r - 1) ≤ r - 1 := Nat.and_le_right
          by_cases hfc : fo < cap
          · have HF2 : Hid (fo + 1 + wt (r &&& (r - 1)) = wt c) := by have := HF.out; show _ = _; omega
            have HA : Hid (bits .and .i64 (r : Int) ((r : Int) - 1) = ((r &&& (r - 1) : Nat) : Int)) := by
              show _ = _
              rw [show (r : Int) - 1 = ((r - 1 : Nat) : Int) from by omega, i64_and_nat _ _ (by omega) (by omega)]
            clear hcl2
            go_wp2_with fail
            go_roundg (r - 1)
            case measure => omega
            case rel => exact ⟨fo + 1, r &&& (r - 1), by omega, by omega, by omega, HF2, int_eq (by omega), int_eq HA.out, rfl⟩
          · have HRN : Hid (R = decFrom x g cap n (i + 1)) := HN.out (by have := HF.out; omega)
            clear hcl2 hle
            go_wp2_with fail
            go_roundg n
            case measure => omega
            case rel => exact ⟨i + 1, by omega, HRN, rfl, rfl, rfl, int_eq (by omega), rfl⟩

set_option maxRecDepth 20000 in
set_option maxHeartbeats 400000 in
theorem decode_any (x k g : Int) (w : World) :
    Calls Try.prog 93 #[.int .i64 x, .int .i64 k, .int .i64 g] w fun e w' => e = .returned (three (decRes x k g)) ∧ w = w' := by
  by_cases hv : valP k g
  · obtain ⟨k', g', rfl, rfl⟩ := nats hv
    have HV := Lib.hid hv
    obtain ⟨h1, h2, h3, h4, h5⟩ := hv
    clear h5
    have hb := deg_bd g' (by omega) (by omega)
    by_cases hn : x < 0 ∨ (pw (k' + g'.log2) : Int) ≤ x
    · rw [decRes_2 HV.out hn]
      have hq := one_shl (k' + g'.log2) (by omega)
      obtain ⟨Q, hQ⟩ : ∃ Q, Q = pw (k' + g'.log2) := ⟨_, rfl⟩
      rw [← hQ] at hq hn
      clear hQ
      obtain ⟨d, hd⟩ : ∃ d, d = g'.log2 := ⟨_, rfl⟩
      rw [← hd] at hb hq
      have HDG := Lib.hid hd
      clear hd
      rcases Int.lt_or_le x 0 with hx0 | hx0
      · clear hn hq
        go_enter Try.func93, Try.ntmps93
        go_wp2_with fail
        go_step3
        go_wp2_with fail
        refine (valid_yes _ _ _ HV.out).mono ?_
        rintro e w' ⟨rfl, rfl⟩
        go_wp2_with fail
        rw [Exit.noGoto_ret]
        go_ret3
        exact ⟨rfl, rfl⟩
      · have hxq : (Q : Int) ≤ x := by omega
        clear hn
        go_enter Try.func93, Try.ntmps93
        go_wp2_with fail
        go_step3
        go_wp2_with fail
        refine (valid_yes _ _ _ HV.out).mono ?_
        rintro e w' ⟨rfl, rfl⟩
        go_wp2_with fail
        refine (degree_pos g' _ (by omega) (by omega)).mono ?_
        rw [← HDG.out]
        rintro e w' ⟨rfl, rfl⟩
        go_wp2_with fail
        rw [Exit.noGoto_ret]
        go_ret3
        exact ⟨rfl, rfl⟩
    · rw [decRes_3 HV.out hn]
      obtain ⟨x', rfl⟩ : ∃ x' : Nat, x = x' := ⟨x.toNat, by omega⟩
      exact decode_ok x' k' g' w HV.out (by omega)
  · rw [decRes_1 hv]
    go_enter Try.func93, Try.ntmps93
    go_wp2_with fail
    go_step3
    go_wp2_with fail
    refine (valid_no _ _ _ hv).mono ?_
    rintro e w' ⟨rfl, rfl⟩
    go_wp2_with fail
    rw [Exit.noGoto_ret]
    go_ret3
    exact ⟨rfl, rfl⟩

end Go.Proofs.Ytjkpdhcnklgfbaa

namespace Go.Proofs.Ytjkpdhcnklgfbaa
open Go.RowKit Go.Bs Go.Bch

def fmtB (b : Nat) (m : Int) : Int × Int := if m < 0 ∨ 7 < m then (0, 3) else ((cw (8 * b + m.toNat) 1335 ^^^ 21522 : Nat), 0)
theorem fmtB_1 {b : Nat} {m : Int} (h : m < 0 ∨ 7 < m) : fmtB b m = (0, 3) := by unfold fmtB; rw [if_pos h]
theorem fmtB_2 {b : Nat} {m : Nat} (h : m ≤ 7) : fmtB b m = (((cw (8 * b + m) 1335 ^^^ 21522 : Nat) : Int), 0) := by unfold fmtB; rw [if_neg (by omega)]; rfl
def fmtRes (l m : Int) : Int × Int := if l = 1 then fmtB 1 m else if l = 2 then fmtB 0 m else if l = 3 then fmtB 3 m else if l = 4 then fmtB 2 m else (0, 15)
theorem fmtRes_5 {l m : Int} (h1 : l ≠ 1) (h2 : l ≠ 2) (h3 : l ≠ 3) (h4 : l ≠ 4) : fmtRes l m = (0, 15) := by
  unfold fmtRes; rw [if_neg h1, if_neg h2, if_neg h3, if_neg h4]

def verRes (n : Int) : Int × Int := if n < 7 ∨ 40 < n then (0, 14) else (cw n.toNat 7973, 0)
theorem verRes_1 {n : Int} (h : n < 7 ∨ 40 < n) : verRes n = (0, 14) := by unfold verRes; rw [if_pos h]
theorem verRes_2 {n : Nat} (h : ¬ ((n : Int) < 7 ∨ 40 < (n : Int))) : verRes n = ((cw n 7973 : Int), 0) := by unfold verRes; rw [if_neg h]; rfl

theorem cw_lt30 (v g : Nat) (hv : v < 4096) (hg1 : 3 ≤ g) (hg2 : g < 524288) : cw v g < 1073741824 := by
  have hb := deg_bd g hg1 hg2
  have := cw_lt g v 12 hg1 hv (by omega)
  have h3 := pow2_le (12 + g.log2) 30 (by omega)
  exact Nat.lt_of_lt_of_le this h3

set_option maxRecDepth 20000 in
theorem format_1 (m : Int) (w : World) :
    Calls Try.prog 43 #[.int .i64 1, .int .i64 m] w fun e w' => e = .returned (two (fmtB 1 m)) ∧ w = w' := by
  by_cases hm : m < 0 ∨ 7 < m
  · rw [fmtB_1 hm]
    rcases Int.lt_or_le m 0 with h0 | h0
    all_goals
      first | (have h7 : 7 < m := by omega) | skip
      clear hm
      go_enter Try.func43, Try.ntmps43
      go_wp2_with fail
      go_ret2
      exact ⟨rfl, rfl⟩
  · obtain ⟨m', rfl⟩ : ∃ m' : Nat, m = m' := ⟨m.toNat, by omega⟩
    have h7 : m' ≤ 7 := by omega
    rw [fmtB_2 h7]
    clear hm
    have hcl := cw_lt30 (8 * 1 + m') 1335 (by omega) (by omega) (by omega)
    have HX := Lib.hid (i64_xor_nat (cw (8 * 1 + m') 1335) 21522 (by omega) (by omega))
    go_enter Try.func43, Try.ntmps43
    go_wp2_with fail
    first | rw [show (8 : Int) + (m' : Int) = ((8 * 1 + m' : Nat) : Int) from by omega] | rw [show (m' : Int) = ((8 * 1 + m' : Nat) : Int) from by omega]
    refine (codeword_any (8 * 1 + m') 1335 _ (by omega) (by omega) (by omega)).mono ?_
    rintro e w' ⟨rfl, rfl⟩
    go_wp2_with fail
    go_ret2
    exact ⟨by rw [← HX.out]; first | rfl | (rw [show 8 * 0 + m' = m' from by omega]; rfl), rfl⟩

set_option maxRecDepth 20000 in
theorem format_2 (m : Int) (w : World) :
    Calls Try.prog 43 #[.int .i64 2, .int .i64 m] w fun e w' => e = .returned (two (fmtB 0 m)) ∧ w = w' := by
  by_cases hm : m < 0 ∨ 7 < m
  · rw [fmtB_1 hm]
    rcases Int.lt_or_le m 0 with h0 | h0
    all_goals
      first | (have h7 : 7 < m := by omega) | skip
      clear hm
      go_enter Try.func43, Try.ntmps43
      go_wp2_with fail
      go_ret2
      exact ⟨rfl, rfl⟩
  · obtain ⟨m', rfl⟩ : ∃ m' : Nat, m = m' := ⟨m.toNat, by omega⟩
    have h7 : m' ≤ 7 := by omega
    rw [fmtB_2 h7]
    clear hm
    have hcl := cw_lt30 (8 * 0 + m') 1335 (by omega) (by omega) (by omega)
    have HX := Lib.hid (i64_xor_nat (cw (8 * 0 + m') 1335) 21522 (by omega) (by omega))
    go_enter Try.func43, Try.ntmps43
    go_wp2_with fail
    first | rw [show (0 : Int) + (m' : Int) = ((8 * 0 + m' : Nat) : Int) from by omega] | rw [show (m' : Int) = ((8 * 0 + m' : Nat) : Int) from by omega]
    refine (codeword_any (8 * 0 + m') 1335 _ (by omega) (by omega) (by omega)).mono ?_
    rintro e w' ⟨rfl, rfl⟩
    go_wp2_with fail
    go_ret2
    exact ⟨by rw [← HX.out]; first | rfl | (rw [show 8 * 0 + m' = m' from by omega]; rfl), rfl⟩

set_option maxRecDepth 20000 in
theorem format_3 (m : Int) (w : World) :
    Calls Try.prog 43 #[.int .i64 3, .int .i64 m] w fun e w' => e = .returned (two (fmtB 3 m)) ∧ w = w' := by
  by_cases hm : m < 0 ∨ 7 < m
  · rw [fmtB_1 hm]
    rcases Int.lt_or_le m 0 with h0 | h0
    all_goals
      first | (have h7 : 7 < m := by omega) | skip
      clear hm
      go_enter Try.func43, Try.ntmps43
      go_wp2_with fail
      go_ret2
      exact ⟨rfl, rfl⟩
  · obtain ⟨m', rfl⟩ : ∃ m' : Nat, m = m' := ⟨m.toNat, by omega⟩
    have h7 : m' ≤ 7 := by omega
    rw [fmtB_2 h7]
    clear hm
    have hcl := cw_lt30 (8 * 3 + m') 1335 (by omega) (by omega) (by omega)
    have HX := Lib.hid (i64_xor_nat (cw (8 * 3 + m') 1335) 21522 (by omega) (by omega))
    go_enter Try.func43, Try.ntmps43
    go_wp2_with fail
    first | rw [show (24 : Int) + (m' : Int) = ((8 * 3 + m' : Nat) : Int) from by omega] | rw [show (m' : Int) = ((8 * 3 + m' : Nat) : Int) from by omega]
    refine (codeword_any (8 * 3 + m') 1335 _ (by omega) (by omega) (by omega)).mono ?_
    rintro e w' ⟨rfl, rfl⟩
    go_wp2_with fail
    go_ret2
    exact ⟨by rw [← HX.out]; first | rfl | (rw [show 8 * 0 + m' = m' from by omega]; rfl), rfl⟩

set_option maxRecDepth 20000 in
theorem format_4 (m : Int) (w : World) :
    Calls Try.prog 43 #[.int .i64 4, .int .i64 m] w fun e w' => e = .returned (two (fmtB 2 m)) ∧ w = w' := by
  by_cases hm : m < 0 ∨ 7 < m
  · rw [fmtB_1 hm]
    rcases Int.lt_or_le m 0 with h0 | h0
    all_goals
      first | (have h7 : 7 < m := by omega) | skip
      clear hm
      go_enter Try.func43, Try.ntmps43
      go_wp2_with fail
      go_ret2
      exact ⟨rfl, rfl⟩
  · obtain ⟨m', rfl⟩ : ∃ m' : Nat, m = m' := ⟨m.toNat, by omega⟩
    have h7 : m' ≤ 7 := by omega
    rw [fmtB_2 h7]
    clear hm
    have hcl := cw_lt30 (8 * 2 + m') 1335 (by omega) (by omega) (by omega)
    have HX := Lib.hid (i64_xor_nat (cw (8 * 2 + m') 1335) 21522 (by omega) (by omega))
    go_enter Try.func43, Try.ntmps43
    go_wp2_with fail
    first | rw [show (16 : Int) + (m' : Int) = ((8 * 2 + m' : Nat) : Int) from by omega] | rw [show (m' : Int) = ((8 * 2 + m' : Nat) : Int) from by omega]
    refine (codeword_any (8 * 2 + m') 1335 _ (by omega) (by omega) (by omega)).mono ?_
    rintro e w' ⟨rfl, rfl⟩
    go_wp2_with fail
    go_ret2
    exact ⟨by rw [← HX.out]; first | rfl | (rw [show 8 * 0 + m' = m' from by omega]; rfl), rfl⟩

set_option maxRecDepth 20000 in
theorem format_any (l m : Int) (w : World) :
    Calls Try.prog 43 #[.int .i64 l, .int .i64 m] w fun e w' => e = .returned (two (fmtRes l m)) ∧ w = w' := by
  by_cases h1 : l = 1
  · subst h1; exact format_1 m w
  by_cases h2 : l = 2
  · subst h2; exact format_2 m w
  by_cases h3 : l = 3
  · subst h3; exact format_3 m w
  by_cases h4 : l = 4
  · subst h4; exact format_4 m w
  rw [fmtRes_5 h1 h2 h3 h4]
  have e1 : (l == 1) = false := by rw [beq_eq_false_iff_ne]; exact h1
  have e2 : (l == 2) = false := by rw [beq_eq_false_iff_ne]; exact h2
  have e3 : (l == 3) = false := by rw [beq_eq_false_iff_ne]; exact h3
  have e4 : (l == 4) = false := by rw [beq_eq_false_iff_ne]; exact h4
  clear h1 h2 h3 h4
  go_enter Try.func43, Try.ntmps43
  go_wp2_with fail
  go_ret2
  exact ⟨rfl, rfl⟩

set_option maxRecDepth 20000 in
theorem rformat_1 (m : Int) (w : World) :
    Calls Try.prog 50 #[.int .i64 1, .int .i64 m] w fun e w' => e = .returned (two (fmtB 1 m)) ∧ w = w' := by
  by_cases hm : m < 0 ∨ 7 < m
  · rw [fmtB_1 hm]
    rcases Int.lt_or_le m 0 with h0 | h0
    all_goals
      first | (have h7 : 7 < m := by omega) | skip
      clear hm
      go_enter Try.func50, Try.ntmps50
      go_wp2_with fail
      go_ret2
      exact ⟨rfl, rfl⟩
  · obtain ⟨m', rfl⟩ : ∃ m' : Nat, m = m' := ⟨m.toNat, by omega⟩
    have h7 : m' ≤ 7 := by omega
    rw [fmtB_2 h7]
    clear hm
    have hcl := cw_lt30 (8 * 1 + m') 1335 (by omega) (by omega) (by omega)
    have HX := Lib.hid (i64_xor_nat (cw (8 * 1 + m') 1335) 21522 (by omega) (by omega))
    go_enter Try.func50, Try.ntmps50
    go_wp2_with fail
    first | rw [show (8 : Int) + (m' : Int) = ((8 * 1 + m' : Nat) : Int) from by omega] | rw [show (m' : Int) = ((8 * 1 + m' : Nat) : Int) from by omega]
    refine (rcodeword_any (8 * 1 + m') 1335 _ (by omega) (by omega) (by omega)).mono ?_
    rintro e w' ⟨rfl, rfl⟩
    go_wp2_with fail
    go_ret2
    exact ⟨by rw [← HX.out]; first | rfl | (rw [show 8 * 0 + m' = m' from by omega]; rfl), rfl⟩

set_option maxRecDepth 20000 in
theorem rformat_2 (m : Int) (w : World) :
    Calls Try.prog 50 #[.int .i64 2, .int .i64 m] w fun e w' => e = .returned (two (fmtB 0 m)) ∧ w = w' := by
  by_cases hm : m < 0 ∨ 7 < m
  · rw [fmtB_1 hm]
    rcases Int.lt_or_le m 0 with h0 | h0
    all_goals
      first | (have h7 : 7 < m := by omega) | skip
      clear hm
      go_enter Try.func50, Try.ntmps50
      go_wp2_with fail
      go_ret2
      exact ⟨rfl, rfl⟩
  · obtain ⟨m', rfl⟩ : ∃ m' : Nat, m = m' := ⟨m.toNat, by omega⟩
    have h7 : m' ≤ 7 := by omega
    rw [fmtB_2 h7]
    clear hm
    have hcl := cw_lt30 (8 * 0 + m') 1335 (by omega) (by omega) (by omega)
    have HX := Lib.hid (i64_xor_nat (cw (8 * 0 + m') 1335) 21522 (by omega) (by omega))
    go_enter Try.func50, Try.ntmps50
    go_wp2_with fail
    first | rw [show (0 : Int) + (m' : Int) = ((8 * 0 + m' : Nat) : Int) from by omega] | rw [show (m' : Int) = ((8 * 0 + m' : Nat) : Int) from by omega]
    refine (rcodeword_any (8 * 0 + m') 1335 _ (by omega) (by omega) (by omega)).mono ?_
    rintro e w' ⟨rfl, rfl⟩
    go_wp2_with fail
    go_ret2
    exact ⟨by rw [← HX.out]; first | rfl | (rw [show 8 * 0 + m' = m' from by omega]; rfl), rfl⟩

set_option maxRecDepth 20000 in
theorem rformat_3 (m : Int) (w : World) :
    Calls Try.prog 50 #[.int .i64 3, .int .i64 m] w fun e w' => e = .returned (two (fmtB 3 m)) ∧ w = w' := by
  by_cases hm : m < 0 ∨ 7 < m
  · rw [fmtB_1 hm]
    rcases Int.lt_or_le m 0 with h0 | h0
    all_goals
      first | (have h7 : 7 < m := by omega) | skip
      clear hm
      go_enter Try.func50, Try.ntmps50
      go_wp2_with fail
      go_ret2
      exact ⟨rfl, rfl⟩
  · obtain ⟨m', rfl⟩ : ∃ m' : Nat, m = m' := ⟨m.toNat, by omega⟩
    have h7 : m' ≤ 7 := by omega
    rw [fmtB_2 h7]
    clear hm
    have hcl := cw_lt30 (8 * 3 + m') 1335 (by omega) (by omega) (by omega)
    have HX := Lib.hid (i64_xor_nat (cw (8 * 3 + m') 1335) 21522 (by omega) (by omega))
    go_enter Try.func50, Try.ntmps50
    go_wp2_with fail
    first | rw [show (24 : Int) + (m' : Int) = ((8 * 3 + m' : Nat) : Int) from by omega] | rw [show (m' : Int) = ((8 * 3 + m' : Nat) : Int) from by omega]
    refine (rcodeword_any (8 * 3 + m') 1335 _ (by omega) (by omega) (by omega)).mono ?_
    rintro e w' ⟨rfl, rfl⟩
    go_wp2_with fail
    go_ret2
    exact ⟨by rw [← HX.out]; first | rfl | (rw [show 8 * 0 + m' = m' from by omega]; rfl), rfl⟩

set_option maxRecDepth 20000 in
theorem rformat_4 (m : Int) (w : World) :
    Calls Try.prog 50 #[.int .i64 4, .int .i64 m] w fun e w' => e = .returned (two (fmtB 2 m)) ∧ w = w' := by
  by_cases hm : m < 0 ∨ 7 < m
  · rw [fmtB_1 hm]
    rcases Int.lt_or_le m 0 with h0 | h0
    all_goals
      first | (have h7 : 7 < m := by omega) | skip
      clear hm
      go_enter Try.func50, Try.ntmps50
      go_wp2_with fail
      go_ret2
      exact ⟨rfl, rfl⟩
  · obtain ⟨m', rfl⟩ : ∃ m' : Nat, m = m' := ⟨m.toNat, by omega⟩
    have h7 : m' ≤ 7 := by omega
    rw [fmtB_2 h7]
    clear hm
    have hcl := cw_lt30 (8 * 2 + m') 1335 (by omega) (by omega) (by omega)
    have HX := Lib.hid (i64_xor_nat (cw (8 * 2 + m') 1335) 21522 (by omega) (by omega))
    go_enter Try.func50, Try.ntmps50
    go_wp2_with fail
    first | rw [show (16 : Int) + (m' : Int) = ((8 * 2 + m' : Nat) : Int) from by omega] | rw [show (m' : Int) = ((8 * 2 + m' : Nat) : Int) from by omega]
    refine (rcodeword_any (8 * 2 + m') 1335 _ (by omega) (by omega) (by omega)).mono ?_
    rintro e w' ⟨rfl, rfl⟩
    go_wp2_with fail
    go_ret2
    exact ⟨by rw [← HX.out]; first | rfl | (rw [show 8 * 0 + m' = m' from by omega]; rfl), rfl⟩

set_option maxRecDepth 20000 in
theorem rformat_any (l m : Int) (w : World) :
    Calls Try.prog 50 #[.int .i64 l, .int .i64 m] w fun e w' => e = .returned (two (fmtRes l m)) ∧ w = w' := by
  by_cases h1 : l = 1
  · subst h1; exact rformat_1 m w
  by_cases h2 : l = 2
  · subst h2; exact rformat_2 m w
  by_cases h3 : l = 3
  · subst h3; exact rformat_3 m w
  by_cases h4 : l = 4
  · subst h4; exact rformat_4 m w
  rw [fmtRes_5 h1 h2 h3 h4]
  have e1 : (l == 1) = false := by rw [beq_eq_false_iff_ne]; exact h1
  have e2 : (l == 2) = false := by rw [beq_eq_false_iff_ne]; exact h2
  have e3 : (l == 3) = false := by rw [beq_eq_false_iff_ne]; exact h3
  have e4 : (l == 4) = false := by rw [beq_eq_false_iff_ne]; exact h4
  clear h1 h2 h3 h4
  go_enter Try.func50, Try.ntmps50
  go_wp2_with fail
  go_ret2
  exact ⟨rfl, rfl⟩

set_option maxRecDepth 20000 in
theorem version_any (n : Int) (w : World) :
    Calls Try.prog 47 #[.int .i64 n] w fun e w' => e = .returned (two (verRes n)) ∧ w = w' := by
  by_cases hm : n < 7 ∨ 40 < n
  · rw [verRes_1 hm]
    rcases Int.lt_or_le n 7 with h0 | h0
    all_goals
      first | (have h7 : 40 < n := by omega) | skip
      clear hm
      go_enter Try.func47, Try.ntmps47
      go_wp2_with fail
      go_ret2
      exact ⟨rfl, rfl⟩
  · obtain ⟨n', rfl⟩ : ∃ n' : Nat, n = n' := ⟨n.toNat, by omega⟩
    rw [verRes_2 hm]
    have h7 : 7 ≤ n' := by omega
    have h40 : n' ≤ 40 := by omega
    clear hm
    go_enter Try.func47, Try.ntmps47
    go_wp2_with fail
    refine (codeword_any n' 7973 _ (by omega) (by omega) (by omega)).mono ?_
    rintro e w' ⟨rfl, rfl⟩
    go_wp2_with fail
    go_ret2
    exact ⟨rfl, rfl⟩

set_option maxRecDepth 20000 in
theorem rversion_any (n : Int) (w : World) :
    Calls Try.prog 51 #[.int .i64 n] w fun e w' => e = .returned (two (verRes n)) ∧ w = w' := by
  by_cases hm : n < 7 ∨ 40 < n
  · rw [verRes_1 hm]
    rcases Int.lt_or_le n 7 with h0 | h0
    all_goals
      first | (have h7 : 40 < n := by omega) | skip
      clear hm
      go_enter Try.func51, Try.ntmps51
      go_wp2_with fail
      go_ret2
      exact ⟨rfl, rfl⟩
  · obtain ⟨n', rfl⟩ : ∃ n' : Nat, n = n' := ⟨n.toNat, by omega⟩
    rw [verRes_2 hm]
    have h7 : 7 ≤ n' := by omega
    have h40 : n' ≤ 40 := by omega
    clear hm
    go_enter Try.func51, Try.ntmps51
    go_wp2_with fail
    refine (rcodeword_any n' 7973 _ (by omega) (by omega) (by omega)).mono ?_
    rintro e w' ⟨rfl, rfl⟩
    go_wp2_with fail
    go_ret2
    exact ⟨rfl, rfl⟩

theorem wt_pop (x : Nat) (h : x < 4294967296) : wt x = pop x := (pop_eq x h).symm

theorem ex1 : encRes 5 5 1335 = (5340, 0) := by
  rw [encRes_3 (by decide) (by decide)]; decide +kernel
theorem ex2 : fmtRes 2 5 = (16590, 0) := by decide +kernel
theorem ex3 : verRes 7 = (31892, 0) := by decide +kernel
theorem dist17 : dist 1 7 = 3 := by
  show min 31 (wt (cw 1 7)) = 3
  rw [wt_pop _ (by decide +kernel)]; decide +kernel
theorem ex4 : distRes 1 7 = (3, 0) := by
  unfold distRes; rw [if_pos (by decide)]; show ((dist 1 7 : Int), (0 : Int)) = _; rw [dist17]; rfl
theorem ex5 : decRes 6 1 7 = (1, 1, 0) := by
  have e : wt (cw 1 7 ^^^ 6) = 1 := by rw [wt_pop _ (by decide +kernel)]; decide +kernel
  rw [decRes_3 (by decide) (by decide +kernel)]
  show decN 6 1 7 = _
  rw [decN_at 6 1 7 1 (by decide) (by decide) (by decide) (by rw [e, dist17]; decide), e]
  rfl
theorem ex6 : fmtRes 1 8 = (0, 3) := by decide +kernel

end Go.Proofs.Ytjkpdhcnklgfbaa
