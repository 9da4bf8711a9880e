/-
  Contracts of ParseFormat and ParseVersion, the package's and the reference's.
  Conditions: none for the last of each.
-/
import Derived.Test.YtddlklnmmnohhaaBchH
import Derived.Test.YtddlklnmmnohhaaInfoPlain
namespace Go.Proofs.Ytddlklnmmnohhaa
open Go.RowKit Go.Bs Go.Bch

theorem results_tmp4 {fn : Func} {t u v x : Tmp} (h : fn.results = #[.tmp t, .tmp u, .tmp v, .tmp x]) (tmps : Array Value) (P : Program) (w : World) :
    (results fn tmps).run P w = .ok (.tuple #[tmps.getD t undef, tmps.getD u undef, tmps.getD v undef, tmps.getD x undef]) w := by
  simp [results, h]
def four (p : Int × Int × Int × Int) : Value := .tuple #[.int .i64 p.1, .int .i64 p.2.1, .int .i64 p.2.2.1, .int .i64 p.2.2.2]

def pfRes (x : Int) : Int × Int × Int × Int := if x < 0 ∨ 32768 ≤ x then (0, 0, 0, 3) else pfN x.toNat
def pvRes (x : Int) : Int × Int × Int := if x < 0 ∨ 262144 ≤ x then (0, 0, 3) else pvN x.toNat
theorem pfRes_1 {x : Int} (h : x < 0 ∨ 32768 ≤ x) : pfRes x = (0, 0, 0, 3) := by unfold pfRes; rw [if_pos h]
theorem pfRes_2 {x : Nat} (h : x < 32768) : pfRes x = pfN x := by unfold pfRes; rw [if_neg (by omega)]; rfl
theorem pvRes_1 {x : Int} (h : x < 0 ∨ 262144 ≤ x) : pvRes x = (0, 0, 3) := by unfold pvRes; rw [if_pos h]
theorem pvRes_2 {x : Nat} (h : x < 262144) : pvRes x = pvN x := by unfold pvRes; rw [if_neg (by omega)]; rfl

theorem val_f : valP 5 1335 := by decide
theorem val_v : valP 6 7973 := by decide
theorem decRes_f (x : Nat) (h : x < 32768) : decRes x 5 1335 = decN x 5 1335 := by
  rw [decRes_3 val_f]; · rfl
  · have : (pw ((5 : Int).toNat + (1335 : Int).toNat.log2)) = 32768 := by decide +kernel
    rw [this]; omega
theorem decRes_v (x : Nat) (h : x < 262144) : decRes x 6 7973 = decN x 6 7973 := by
  rw [decRes_3 val_v]; · rfl
  · have : (pw ((6 : Int).toNat + (7973 : Int).toNat.log2)) = 262144 := by decide +kernel
    rw [this]; omega

set_option maxRecDepth 20000 in
set_option maxHeartbeats 400000 in
theorem parseVersion_any (x : Int) (w : World) :
    Calls Try.prog 26 #[.int .i64 x] w fun e w' => e = .returned (three (pvRes x)) ∧ w = w' := by
  by_cases hn : x < 0 ∨ 262144 ≤ x
  · rw [pvRes_1 hn]
    rcases Int.lt_or_le x 0 with h0 | h0
    all_goals
      first | (have h7 : 262144 ≤ x := by omega) | skip
      clear hn
      go_enter Try.func26, Try.ntmps26
      go_wp2_with fail
      go_ret3
      exact ⟨rfl, rfl⟩
  · obtain ⟨x', rfl⟩ : ∃ x' : Nat, x = x' := ⟨x.toNat, by omega⟩
    have hx : x' < 262144 := by omega
    rw [pvRes_2 hx]
    have HD := Lib.hid (decRes_v x' hx)
    clear hn
    rcases pvN_dec x' with ⟨h1, h2⟩ | ⟨v, n, hv, hn3, h1, h2⟩
    · rw [h1] at HD
      rw [h2]
      clear h1 h2
      go_enter Try.func26, Try.ntmps26
      go_wp2_with fail
      refine (decode_any _ _ _ _).mono ?_
      rw [HD.out]
      rintro e w' ⟨rfl, rfl⟩
      simp only [three]
      go_wp2_with fail
      go_ret3
      exact ⟨rfl, rfl⟩
    · rw [h1] at HD
      rw [h2]
      clear h1 h2
      by_cases h7 : v < 7
      · rw [if_pos (Or.inl h7)]
        go_enter Try.func26, Try.ntmps26
        go_wp2_with fail
        refine (decode_any _ _ _ _).mono ?_
        rw [HD.out]
        rintro e w' ⟨rfl, rfl⟩
        simp only [three]
        go_wp2_with fail
        go_ret3
        exact ⟨rfl, rfl⟩
      · by_cases h40 : 40 < v
        · rw [if_pos (Or.inr h40)]
          go_enter Try.func26, Try.ntmps26
          go_wp2_with fail
          refine (decode_any _ _ _ _).mono ?_
          rw [HD.out]
          rintro e w' ⟨rfl, rfl⟩
          simp only [three]
          go_wp2_with fail
          go_ret3
          exact ⟨rfl, rfl⟩
        · rw [if_neg (by omega)]
          go_enter Try.func26, Try.ntmps26
          go_wp2_with fail
          refine (decode_any _ _ _ _).mono ?_
          rw [HD.out]
          rintro e w' ⟨rfl, rfl⟩
          simp only [three]
          go_wp2_with fail
          go_ret3
          exact ⟨rfl, rfl⟩

set_option maxRecDepth 20000 in
set_option maxHeartbeats 400000 in
theorem rparseVersion_any (x : Int) (w : World) :
    Calls Try.prog 27 #[.int .i64 x] w fun e w' => e = .returned (three (pvRes x)) ∧ w = w' := by
  by_cases hn : x < 0 ∨ 262144 ≤ x
  · rw [pvRes_1 hn]
    rcases Int.lt_or_le x 0 with h0 | h0
    all_goals
      first | (have h7 : 262144 ≤ x := by omega) | skip
      clear hn
      go_enter Try.func27, Try.ntmps27
      go_wp2_with fail
      go_ret3
      exact ⟨rfl, rfl⟩
  · obtain ⟨x', rfl⟩ : ∃ x' : Nat, x = x' := ⟨x.toNat, by omega⟩
    have hx : x' < 262144 := by omega
    rw [pvRes_2 hx]
    clear hn
    obtain ⟨R, hR⟩ : ∃ R, R = pvN x' := ⟨_, rfl⟩
    rw [← hR]
    have HR := Lib.hid hR
    clear hR
    go_enter Try.func27, Try.ntmps27
    go_wp2_with fail
    go_loop [5] (fun y => ∃ v : Nat, v ≤ 64 ∧ Hid (∀ u, u < v → 3 < wt (cw u 7973 ^^^ x')) ∧ y = .int .i64 v) (fun y => 64 - (intOf y).toNat)
    case atStart => exact ⟨0, by omega, Lib.hid (fun u h => absurd h (Nat.not_lt_zero _)), rfl⟩
    case round =>
      obtain ⟨v, hv, HN, rfl⟩ := hrel
      by_cases hl : v < 64
      · have hcl := cw_lt30 v 7973 (by omega) (by omega) (by omega)
        obtain ⟨c, hc⟩ : ∃ c, c = cw v 7973 ^^^ x' := ⟨_, rfl⟩
        have hcb : c < 1073741824 := by rw [hc]; exact Nat.xor_lt_two_pow (n := 30) hcl (by omega)
        have HX : Hid (bits .xor .i64 (cw v 7973 : Int) (x' : Int) = (c : Int)) := by
          show _ = _
          rw [i64_xor_nat _ _ (by omega) (by omega), hc]
        have hwl := wt_lt 30 _ hcb
        have HY : Hid (wt c ≤ 3 → R = if v < 7 ∨ 40 < v then (0, 0, 14) else ((v : Int), (wt c : Int), 0)) := by
          intro h; rw [HR.out, hc]; rw [hc] at h; exact pvN_yes x' v hl h
        have HZ : Hid (3 < wt c → ∀ u, u < v + 1 → 3 < wt (cw u 7973 ^^^ x')) := by
          intro h u hu
          by_cases e : u = v
          · subst e; rw [← hc]; exact h
          · exact HN.out u (by omega)
        clear hc
        by_cases h3 : wt c ≤ 3
        · have HY3 := Lib.hid (HY.out h3)
          clear HY HZ
          by_cases h7 : v < 7
          · have HY4 : Hid (R = (0, 0, 14)) := by show _ = _; rw [HY3.out, if_pos (Or.inl h7)]
            clear HY3
            go_wp2_with fail
            refine (rcodeword_any v 7973 _ (by omega) (by omega) (by omega)).mono ?_
            rintro e w' ⟨rfl, rfl⟩
            go_wp2_with fail
            rw [HX.out]
            refine (weight_any c _ (by omega)).mono ?_
            rintro e w' ⟨rfl, rfl⟩
            go_wp2_with fail
            go_ret3
            exact ⟨by rw [HY4.out]; rfl, rfl⟩
          · by_cases h40 : 40 < v
            · have HY4 : Hid (R = (0, 0, 14)) := by show _ = _; rw [HY3.out, if_pos (Or.inr h40)]
              clear HY3
              go_wp2_with fail
              refine (rcodeword_any v 7973 _ (by omega) (by omega) (by omega)).mono ?_
              rintro e w' ⟨rfl, rfl⟩
              go_wp2_with fail
              rw [HX.out]
              refine (weight_any c _ (by omega)).mono ?_
              rintro e w' ⟨rfl, rfl⟩
              go_wp2_with fail
              go_ret3
              exact ⟨by rw [HY4.out]; rfl, rfl⟩
            · have HY4 : Hid (R = ((v : Int), (wt c : Int), 0)) := by show _ = _; rw [HY3.out, if_neg (by omega)]
              clear HY3
              go_wp2_with fail
              refine (rcodeword_any v 7973 _ (by omega) (by omega) (by omega)).mono ?_
              rintro e w' ⟨rfl, rfl⟩
              go_wp2_with fail
              rw [HX.out]
              refine (weight_any c _ (by omega)).mono ?_
              rintro e w' ⟨rfl, rfl⟩
              go_wp2_with fail
              go_ret3
              exact ⟨by rw [HY4.out]; rfl, rfl⟩
        · have HZ3 := Lib.hid (HZ.out (by omega))
          clear HY HZ
          go_wp2_with fail
          refine (rcodeword_any v 7973 _ (by omega) (by omega) (by omega)).mono ?_
          rintro e w' ⟨rfl, rfl⟩
          go_wp2_with fail
          rw [HX.out]
          refine (weight_any c _ (by omega)).mono ?_
          rintro e w' ⟨rfl, rfl⟩
          go_wp2_with fail
          go_round
          case rel => exact ⟨v + 1, by omega, HZ3, int_eq (by omega)⟩
          case measure => simp [intOf]; omega
      · have HE : Hid (R = (0, 0, 21)) := by show _ = _; rw [HR.out]; exact pvN_no x' (fun u hu => HN.out u (by omega))
        go_wp2_with fail
        go_ret3
        exact ⟨by rw [HE.out]; rfl, rfl⟩

end Go.Proofs.Ytddlklnmmnohhaa
