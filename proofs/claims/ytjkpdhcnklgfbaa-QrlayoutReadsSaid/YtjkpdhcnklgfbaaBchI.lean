/-
  Contracts of ParseFormat and ParseVersion, the package's and the reference's.
  Conditions: none for the last of each.
  Contracts of ParseFormat, the package's and the reference's.
  Conditions: none.
-/
import Derived.Test.YtjkpdhcnklgfbaaBchE
import Derived.Test.YtjkpdhcnklgfbaaInfoPlain
namespace Go.Proofs.Ytjkpdhcnklgfbaa
open Go.RowKit Go.Bs Go.Bch

def pfRes (x : Int) : Int × Int × Int × Int := if x < 0 ∨ 32768 ≤ x then (0, 0, 0, 3) else pfN x.toNat
def pvRes (x : Int) : Int × Int × Int := if x < 0 ∨ 262144 ≤ x then (0, 0, 3) else pvN x.toNat
theorem pfRes_1 {x : Int} (h : x < 0 ∨ 32768 ≤ x) : pfRes x = (0, 0, 0, 3) := by unfold pfRes; rw [if_pos h]
theorem pfRes_2 {x : Nat} (h : x < 32768) : pfRes x = pfN x := by unfold pfRes; rw [if_neg (by omega)]; rfl
theorem pvRes_1 {x : Int} (h : x < 0 ∨ 262144 ≤ x) : pvRes x = (0, 0, 3) := by unfold pvRes; rw [if_pos h]
theorem pvRes_2 {x : Nat} (h : x < 262144) : pvRes x = pvN x := by unfold pvRes; rw [if_neg (by omega)]; rfl

theorem val_f : valP 5 1335 := by decide
theorem val_v : valP 6 7973 := by decide
theorem decRes_f (x : Nat) (h : x < 32768) : decRes x 5 1335 = decN x 5 1335 := by
  rw [decRes_3 val_f]; · rfl
  · have : (pw ((5 : Int).toNat + (1335 : Int).toNat.log2)) = 32768 := by decide +kernel
    rw [this]; omega
theorem decRes_v (x : Nat) (h : x < 262144) : decRes x 6 7973 = decN x 6 7973 := by
  rw [decRes_3 val_v]; · rfl
  · have : (pw ((6 : Int).toNat + (7973 : Int).toNat.log2)) = 262144 := by decide +kernel
    rw [this]; omega

set_option maxRecDepth 20000 in
set_option maxHeartbeats 400000 in
theorem parseVersion_any (x : Int) (w : World) :
    Calls Try.prog 76 #[.int .i64 x] w fun e w' => e = .returned (three (pvRes x)) ∧ w = w' := by
  by_cases hn : x < 0 ∨ 262144 ≤ x
  · rw [pvRes_1 hn]
    rcases Int.lt_or_le x 0 with h0 | h0
    all_goals
      first | (have h7 : 262144 ≤ x := by omega) | skip
      clear hn
      go_enter Try.func76, Try.ntmps76
      go_wp2_with fail
      go_ret3
      exact ⟨rfl, rfl⟩
  · obtain ⟨x', rfl⟩ : ∃ x' : Nat, x = x' := ⟨x.toNat, by omega⟩
    have hx : x' < 262144 := by omega
    rw [pvRes_2 hx]
    have HD := Lib.hid (decRes_v x' hx)
    clear hn
    rcases pvN_dec x' with ⟨h1, h2⟩ | ⟨v, n, hv, hn3, h1, h2⟩
    · rw [h1] at HD
      rw [h2]
      clear h1 h2
      go_enter Try.func76, Try.ntmps76
      go_wp2_with fail
      refine (decode_any _ _ _ _).mono ?_
      rw [HD.out]
      rintro e w' ⟨rfl, rfl⟩
      simp only [three]
      go_wp2_with fail
      go_ret3
      exact ⟨rfl, rfl⟩
    · rw [h1] at HD
      rw [h2]
      clear h1 h2
      by_cases h7 : v < 7
      · rw [if_pos (Or.inl h7)]
        go_enter Try.func76, Try.ntmps76
        go_wp2_with fail
        refine (decode_any _ _ _ _).mono ?_
        rw [HD.out]
        rintro e w' ⟨rfl, rfl⟩
        simp only [three]
        go_wp2_with fail
        go_ret3
        exact ⟨rfl, rfl⟩
      · by_cases h40 : 40 < v
        · rw [if_pos (Or.inr h40)]
          go_enter Try.func76, Try.ntmps76
          go_wp2_with fail
          refine (decode_any _ _ _ _).mono ?_
          rw [HD.out]
          rintro e w' ⟨rfl, rfl⟩
          simp only [three]
          go_wp2_with fail
          go_ret3
          exact ⟨rfl, rfl⟩
        · rw [if_neg (by omega)]
          go_enter Try.func76, Try.ntmps76
          go_wp2_with fail
          refine (decode_any _ _ _ _).mono ?_
          rw [HD.out]
          rintro e w' ⟨rfl, rfl⟩
          simp only [three]
          go_wp2_with fail
          go_ret3
          exact ⟨rfl, rfl⟩

set_option maxRecDepth 20000 in
set_option maxHeartbeats 400000 in
theorem rparseVersion_any (x : Int) (w : World) :
    Calls Try.prog 79 #[.int .i64 x] w fun e w' => e = .returned (three (pvRes x)) ∧ w = w' := by
  by_cases hn : x < 0 ∨ 262144 ≤ x
  · rw [pvRes_1 hn]
    rcases Int.lt_or_le x 0 with h0 | h0
    all_goals
      first | (have h7 : 262144 ≤ x := by omega) | skip
      clear hn
      go_enter Try.func79, Try.ntmps79
      go_wp2_with fail
      go_ret3
      exact ⟨rfl, rfl⟩
  · obtain ⟨x', rfl⟩ : ∃ x' : Nat, x = x' := ⟨x.toNat, by omega⟩
    have hx : x' < 262144 := by omega
    rw [pvRes_2 hx]
    clear hn
    obtain ⟨R, hR⟩ : ∃ R, R = pvN x' := ⟨_, rfl⟩
    rw [← hR]
    have HR := Lib.hid hR
    clear hR
    go_enter Try.func79, Try.ntmps79
    go_wp2_with fail
    go_loop [5] (fun y => ∃ v : Nat, v ≤ 64 ∧ Hid (∀ u, u < v → 3 < wt (cw u 7973 ^^^ x')) ∧ y = .int .i64 v) (fun y => 64 - (intOf y).toNat)
    case atStart => exact ⟨0, by omega, Lib.hid (fun u h => absurd h (Nat.not_lt_zero _)), rfl⟩
    case round =>
      obtain ⟨v, hv, HN, rfl⟩ := hrel
      by_cases hl : v < 64
      · have hcl := cw_lt30 v 7973 (by omega) (by omega) (by omega)
        obtain ⟨c, hc⟩ : ∃ c, c = cw v 7973 ^^^ x' := ⟨_, rfl⟩
        have hcb : c < 1073741824 := by rw [hc]; exact Nat.xor_lt_two_pow (n := 30) hcl (by omega)
        have HX : Hid (bits .xor .i64 (cw v 7973 : Int) (x' : Int) = (c : Int)) := by
          show _ = _
          rw [i64_xor_nat _ _ (by omega) (by omega), hc]
        have hwl := wt_lt 30 _ hcb
        have HY : Hid (wt c ≤ 3 → R = if v < 7 ∨ 40 < v then (0, 0, 14) else ((v : Int), (wt c : Int), 0)) := by
          intro h; rw [HR.out, hc]; rw [hc] at h; exact pvN_yes x' v hl h
        have HZ : Hid (3 < wt c → ∀ u, u < v + 1 → 3 < wt (cw u 7973 ^^^ x')) := by
          intro h u hu
          by_cases e : u = v
          · subst e; rw [← hc]; exact h
          · exact HN.out u (by omega)
        clear hc
        by_cases h3 : wt c ≤ 3
        · have HY3 := Lib.hid (HY.out h3)
          clear HY HZ
          by_cases h7 : v < 7
          · have HY4 : Hid (R = (0, 0, 14)) := by show _ = _; rw [HY3.out, if_pos (Or.inl h7)]
            clear HY3
            go_wp2_with fail
            refine (rcodeword_any v 7973 _ (by omega) (by omega) (by omega)).mono ?_
            rintro e w' ⟨rfl, rfl⟩
            go_wp2_with fail
            rw [HX.out]
            refine (weight_any c _ (by omega)).mono ?_
            rintro e w' ⟨rfl, rfl⟩
            go_wp2_with fail
            go_ret3
            exact ⟨by rw [HY4.out]; rfl, rfl⟩
          · by_cases h40 : 40 < v
            · have HY4 : Hid (R = (0, 0, 14)) := by show _ = _; rw [HY3.out, if_pos (Or.inr h40)]
              clear HY3
              go_wp2_with fail
              refine (rcodeword_any v 7973 _ (by omega) (by omega) (by omega)).mono ?_
              rintro e w' ⟨rfl, rfl⟩
              go_wp2_with fail
              rw [HX.out]
              refine (weight_any c _ (by omega)).mono ?_
              rintro e w' ⟨rfl, rfl⟩
              go_wp2_with fail
              go_ret3
              exact ⟨by rw [HY4.out]; rfl, rfl⟩
            · have HY4 : Hid (R = ((v : Int), (wt c : Int), 0)) := by show _ = _; rw [HY3.out, if_neg (by omega)]
              clear HY3
              go_wp2_with fail
              refine (rcodeword_any v 7973 _ (by omega) (by omega) (by omega)).mono ?_
              rintro e w' ⟨rfl, rfl⟩
              go_wp2_with fail
              rw [HX.out]
              refine (weight_any c _ (by omega)).mono ?_
              rintro e w' ⟨rfl, rfl⟩
              go_wp2_with fail
              go_ret3
              exact ⟨by rw [HY4.out]; rfl, rfl⟩
        · have HZ3 := Lib.hid (HZ.out (by omega))
          clear HY HZ
          go_wp2_with fail
          refine (rcodeword_any v 7973 _ (by omega) (by omega) (by omega)).mono ?_
          rintro e w' ⟨rfl, rfl⟩
          go_wp2_with fail
          rw [HX.out]
          refine (weight_any c _ (by omega)).mono ?_
          rintro e w' ⟨rfl, rfl⟩
          go_wp2_with fail
          go_round
          case rel => exact ⟨v + 1, by omega, HZ3, int_eq (by omega)⟩
          case measure => simp [intOf]; omega
      · have HE : Hid (R = (0, 0, 21)) := by show _ = _; rw [HR.out]; exact pvN_no x' (fun u hu => HN.out u (by omega))
        go_wp2_with fail
        go_ret3
        exact ⟨by rw [HE.out]; rfl, rfl⟩

end Go.Proofs.Ytjkpdhcnklgfbaa

namespace Go.Proofs.Ytjkpdhcnklgfbaa
open Go.RowKit Go.Bs Go.Bch

theorem xor_f (x : Nat) (h : x < 32768) : bits .xor .i64 (x : Int) 21522 = ((x ^^^ 21522 : Nat) : Int) ∧ x ^^^ 21522 < 32768 :=
  ⟨i64_xor_nat x 21522 (by omega) (by decide), Nat.xor_lt_two_pow (n := 15) h (by decide)⟩

set_option maxRecDepth 20000 in
set_option maxHeartbeats 400000 in
theorem parseFormat_any (x : Int) (w : World) :
    Calls Try.prog 78 #[.int .i64 x] w fun e w' => e = .returned (four (pfRes x)) ∧ Ext w w' := by
  by_cases hn : x < 0 ∨ 32768 ≤ x
  · rw [pfRes_1 hn]
    rcases Int.lt_or_le x 0 with h0 | h0
    all_goals
      first | (have h7 : 32768 ≤ x := by omega) | skip
      clear hn
      go_enter Try.func78, Try.ntmps78
      go_wp2_with fail
      refine bodyPost_ret (results_tmp4 rfl _ _ _) rfl ?_
      exact ⟨rfl, Ext.refl _⟩
  · obtain ⟨x', rfl⟩ : ∃ x' : Nat, x = x' := ⟨x.toNat, by omega⟩
    have hx : x' < 32768 := by omega
    rw [pfRes_2 hx]
    have hxx := xor_f x' hx
    have HD := Lib.hid (decRes_f (x' ^^^ 21522) hxx.2)
    have HX := Lib.hid hxx.1
    clear hn hxx
    rcases pfN_dec x' with ⟨h1, h2⟩ | ⟨v, n, hv, hn3, h1, h2⟩
    · rw [h1] at HD
      rw [h2]
      clear h1 h2
      go_enter Try.func78, Try.ntmps78
      go_wp2_with fail
      refine (decode_any _ _ _ _).mono ?_
      rw [HX.out, HD.out]
      rintro e w' ⟨rfl, rfl⟩
      simp only [three]
      go_wp2_with fail
      refine bodyPost_ret (results_tmp4 rfl _ _ _) rfl ?_
      exact ⟨rfl, Ext.refl _⟩
    · rw [h1] at HD
      rw [h2]
      clear h1 h2
      have hm : (v : Int) % 8 = ((v % 8 : Nat) : Int) := by omega
      have HM := Lib.hid hm
      clear hm
      obtain h8 | h8 | h8 | h8 : v / 8 = 0 ∨ v / 8 = 1 ∨ v / 8 = 2 ∨ v / 8 = 3 := by omega
      all_goals
        rw [h8]
        first
          | (have hq : (v : Int) / 8 = 0 := by omega)
          | (have hq : (v : Int) / 8 = 1 := by omega)
          | (have hq : (v : Int) / 8 = 2 := by omega)
          | (have hq : (v : Int) / 8 = 3 := by omega)
        clear h8
        go_enter Try.func78, Try.ntmps78
        go_wp2_with fail
        refine (decode_any _ _ _ _).mono ?_
        rw [HX.out, HD.out]
        rintro e w' ⟨rfl, rfl⟩
        simp only [three]
        go_wp2_with fail
        refine bodyPost_ret (results_tmp4 rfl _ _ _) rfl ?_
        exact ⟨by rw [← HM.out]; rfl, Ext.alloc _ _⟩

theorem fmtRes_at (l m : Nat) (h1 : 1 ≤ l) (h2 : l ≤ 4) (hm : m < 8) : fmtRes l m = (((cw (8 * bl l + m) 1335 ^^^ 21522 : Nat) : Int), 0) := by
  obtain rfl | rfl | rfl | rfl : l = 1 ∨ l = 2 ∨ l = 3 ∨ l = 4 := by omega
  all_goals exact fmtB_2 (by omega)

set_option maxRecDepth 20000 in
set_option maxHeartbeats 400000 in
theorem rparseFormat_any (x : Int) (w : World) :
    Calls Try.prog 55 #[.int .i64 x] w fun e w' => e = .returned (four (pfRes x)) ∧ w = w' := by
  by_cases hn : x < 0 ∨ 32768 ≤ x
  · rw [pfRes_1 hn]
    rcases Int.lt_or_le x 0 with h0 | h0
    all_goals
      first | (have h7 : 32768 ≤ x := by omega) | skip
      clear hn
      go_enter Try.func55, Try.ntmps55
      go_wp2_with fail
      refine bodyPost_ret (results_tmp4 rfl _ _ _) rfl ?_
      exact ⟨rfl, rfl⟩
  · obtain ⟨x', rfl⟩ : ∃ x' : Nat, x = x' := ⟨x.toNat, by omega⟩
    have hx : x' < 32768 := by omega
    rw [pfRes_2 hx]
    clear hn
    obtain ⟨R, hR⟩ : ∃ R, R = pfN x' := ⟨_, rfl⟩
    rw [← hR]
    have HR := Lib.hid hR
    clear hR
    go_enter Try.func55, Try.ntmps55
    go_wp2_with fail
    go_loop [6] (fun y => ∃ l : Nat, 1 ≤ l ∧ l ≤ 5 ∧ Hid (∀ k m, 1 ≤ k → k < l → m < 8 → 3 < wt (cw (8 * bl k + m) 1335 ^^^ (x' ^^^ 21522))) ∧ y = .int .i64 l) (fun y => 5 - (intOf y).toNat)
    case atStart => exact ⟨1, by omega, by omega, Lib.hid (fun k m a b _ => absurd b (by omega)), rfl⟩
    case round =>
      obtain ⟨l, hl1, hl5, HL, rfl⟩ := hrel
      by_cases hl : l ≤ 4
      · go_wp2_with fail
        go_loop [7] (fun y => ∃ m : Nat, m ≤ 8 ∧ Hid (∀ k, k < m → 3 < wt (cw (8 * bl l + k) 1335 ^^^ (x' ^^^ 21522))) ∧ y = .int .i64 m) (fun y => 8 - (intOf y).toNat)
        case atStart => exact ⟨0, by omega, Lib.hid (fun k a => absurd a (by omega)), rfl⟩
        case round =>
          obtain ⟨m, hm, HN, rfl⟩ := hrel
          by_cases hm8 : m < 8
          · have hbl := bl_lt l
            have hcl := cw_lt30 (8 * bl l + m) 1335 (by omega) (by omega) (by omega)
            obtain ⟨c, hc⟩ : ∃ c, c = cw (8 * bl l + m) 1335 ^^^ (x' ^^^ 21522) := ⟨_, rfl⟩
            have hx2 := (xor_f x' hx).2
            have hcb : c < 1073741824 := by rw [hc]; exact Nat.xor_lt_two_pow (n := 30) hcl (by omega)
            have hcl2 : cw (8 * bl l + m) 1335 ^^^ 21522 < 1073741824 := Nat.xor_lt_two_pow (n := 30) hcl (by omega)
            have HX : Hid (bits .xor .i64 ((cw (8 * bl l + m) 1335 ^^^ 21522 : Nat) : Int) (x' : Int) = (c : Int)) := by
              show _ = _
              rw [i64_xor_nat _ _ (by omega) (by omega), hc, Nat.xor_assoc, Nat.xor_comm x']
            have hwl := wt_lt 30 _ hcb
            have HF := Lib.hid (fmtRes_at l m hl1 hl hm8)
            have HY : Hid (wt c ≤ 3 → R = ((l : Int), (m : Int), (wt c : Int), 0)) := by
              intro h; rw [HR.out, hc]; rw [hc] at h; exact pfN_yes x' l m hl1 hl hm8 h
            have HZ : Hid (3 < wt c → ∀ k, k < m + 1 → 3 < wt (cw (8 * bl l + k) 1335 ^^^ (x' ^^^ 21522))) := by
              intro h u hu
              by_cases e : u = m
              · subst e; rw [← hc]; exact h
              · exact HN.out u (by omega)
            clear hc hcl hcl2 hx2 hbl
            by_cases h3 : wt c ≤ 3
            · have HY3 := Lib.hid (HY.out h3)
              clear HY HZ
              go_wp2_with fail
              refine (rformat_any _ _ _).mono ?_
              rw [HF.out]
              rintro e w' ⟨rfl, rfl⟩
              simp only [two]
              go_wp2_with fail
              rw [HX.out]
              refine (weight_any c _ (by omega)).mono ?_
              rintro e w' ⟨rfl, rfl⟩
              go_wp2_with fail
              refine bodyPost_ret (results_tmp4 rfl _ _ _) rfl ?_
              exact ⟨by rw [HY3.out]; rfl, rfl⟩
            · have HZ3 := Lib.hid (HZ.out (by omega))
              clear HY HZ
              go_wp2_with fail
              refine (rformat_any _ _ _).mono ?_
              rw [HF.out]
              rintro e w' ⟨rfl, rfl⟩
              simp only [two]
              go_wp2_with fail
              rw [HX.out]
              refine (weight_any c _ (by omega)).mono ?_
              rintro e w' ⟨rfl, rfl⟩
              go_wp2_with fail
              go_round
              case rel => exact ⟨m + 1, by omega, HZ3, int_eq (by omega)⟩
              case measure => simp [intOf]; omega
          · have HL2 : Hid (∀ k m, 1 ≤ k → k < l + 1 → m < 8 → 3 < wt (cw (8 * bl k + m) 1335 ^^^ (x' ^^^ 21522))) := by
              intro k j a b c
              by_cases e : k = l
              · subst e; exact HN.out j (by omega)
              · exact HL.out k j a (by omega) c
            clear HL HN
            go_wp2_with fail
            go_round
            case rel => exact ⟨l + 1, by omega, by omega, HL2, int_eq (by omega)⟩
            case measure => simp [intOf]; omega
      · have HE : Hid (R = (0, 0, 0, 21)) := by show _ = _; rw [HR.out]; exact pfN_no x' (fun k m a b c => HL.out k m a (by omega) c)
        go_wp2_with fail
        refine bodyPost_ret (results_tmp4 rfl _ _ _) rfl ?_
        exact ⟨by rw [HE.out]; rfl, rfl⟩

end Go.Proofs.Ytjkpdhcnklgfbaa
