/-
  Contracts of ParseFormat, the package's and the reference's.
  Conditions: none.
-/
import Derived.Test.YtddlklnmmnohhaaBchI
namespace Go.Proofs.Ytddlklnmmnohhaa
open Go.RowKit Go.Bs Go.Bch

theorem xor_f (x : Nat) (h : x < 32768) : bits .xor .i64 (x : Int) 21522 = ((x ^^^ 21522 : Nat) : Int) ∧ x ^^^ 21522 < 32768 :=
  ⟨i64_xor_nat x 21522 (by omega) (by decide), Nat.xor_lt_two_pow (n := 15) h (by decide)⟩

set_option maxRecDepth 20000 in
set_option maxHeartbeats 400000 in
theorem parseFormat_any (x : Int) (w : World) :
    Calls Try.prog 22 #[.int .i64 x] w fun e w' => e = .returned (four (pfRes x)) ∧ Ext w w' := by
  by_cases hn : x < 0 ∨ 32768 ≤ x
  · rw [pfRes_1 hn]
    rcases Int.lt_or_le x 0 with h0 | h0
    all_goals
      first | (have h7 : 32768 ≤ x := by omega) | skip
      clear hn
      go_enter Try.func22, Try.ntmps22
      go_wp2_with fail
      refine bodyPost_ret (results_tmp4 rfl _ _ _) rfl ?_
      exact ⟨rfl, Ext.refl _⟩
  · obtain ⟨x', rfl⟩ : ∃ x' : Nat, x = x' := ⟨x.toNat, by omega⟩
    have hx : x' < 32768 := by omega
    rw [pfRes_2 hx]
    have hxx := xor_f x' hx
    have HD := Lib.hid (decRes_f (x' ^^^ 21522) hxx.2)
    have HX := Lib.hid hxx.1
    clear hn hxx
    rcases pfN_dec x' with ⟨h1, h2⟩ | ⟨v, n, hv, hn3, h1, h2⟩
    · rw [h1] at HD
      rw [h2]
      clear h1 h2
      go_enter Try.func22, Try.ntmps22
      go_wp2_with fail
      refine (decode_any _ _ _ _).mono ?_
      rw [HX.out, HD.out]
      rintro e w' ⟨rfl, rfl⟩
      simp only [three]
      go_wp2_with fail
      refine bodyPost_ret (results_tmp4 rfl _ _ _) rfl ?_
      exact ⟨rfl, Ext.refl _⟩
    · rw [h1] at HD
      rw [h2]
      clear h1 h2
      have hm : (v : Int) % 8 = ((v % 8 : Nat) : Int) := by omega
      have HM := Lib.hid hm
      clear hm
      obtain h8 | h8 | h8 | h8 : v / 8 = 0 ∨ v / 8 = 1 ∨ v / 8 = 2 ∨ v / 8 = 3 := by omega
      all_goals
        rw [h8]
        first
          | (have hq : (v : Int) / 8 = 0 := by omega)
          | (have hq : (v : Int) / 8 = 1 := by omega)
          | (have hq : (v : Int) / 8 = 2 := by omega)
          | (have hq : (v : Int) / 8 = 3 := by omega)
        clear h8
        go_enter Try.func22, Try.ntmps22
        go_wp2_with fail
        refine (decode_any _ _ _ _).mono ?_
        rw [HX.out, HD.out]
        rintro e w' ⟨rfl, rfl⟩
        simp only [three]
        go_wp2_with fail
        refine bodyPost_ret (results_tmp4 rfl _ _ _) rfl ?_
        exact ⟨by rw [← HM.out]; rfl, Ext.alloc _ _⟩

theorem fmtRes_at (l m : Nat) (h1 : 1 ≤ l) (h2 : l ≤ 4) (hm : m < 8) : fmtRes l m = (((cw (8 * bl l + m) 1335 ^^^ 21522 : Nat) : Int), 0) := by
  obtain rfl | rfl | rfl | rfl : l = 1 ∨ l = 2 ∨ l = 3 ∨ l = 4 := by omega
  all_goals exact fmtB_2 (by omega)

set_option maxRecDepth 20000 in
set_option maxHeartbeats 400000 in
theorem rparseFormat_any (x : Int) (w : World) :
    Calls Try.prog 23 #[.int .i64 x] w fun e w' => e = .returned (four (pfRes x)) ∧ w = w' := by
  by_cases hn : x < 0 ∨ 32768 ≤ x
  · rw [pfRes_1 hn]
    rcases Int.lt_or_le x 0 with h0 | h0
    all_goals
      first | (have h7 : 32768 ≤ x := by omega) | skip
      clear hn
      go_enter Try.func23, Try.ntmps23
      go_wp2_with fail
      refine bodyPost_ret (results_tmp4 rfl _ _ _) rfl ?_
      exact ⟨rfl, rfl⟩
  · obtain ⟨x', rfl⟩ : ∃ x' : Nat, x = x' := ⟨x.toNat, by omega⟩
    have hx : x' < 32768 := by omega
    rw [pfRes_2 hx]
    clear hn
    obtain ⟨R, hR⟩ : ∃ R, R = pfN x' := ⟨_, rfl⟩
    rw [← hR]
    have HR := Lib.hid hR
    clear hR
    go_enter Try.func23, Try.ntmps23
    go_wp2_with fail
    go_loop [6] (fun y => ∃ l : Nat, 1 ≤ l ∧ l ≤ 5 ∧ Hid (∀ k m, 1 ≤ k → k < l → m < 8 → 3 < wt (cw (8 * bl k + m) 1335 ^^^ (x' ^^^ 21522))) ∧ y = .int .i64 l) (fun y => 5 - (intOf y).toNat)
    case atStart => exact ⟨1, by omega, by omega, Lib.hid (fun k m a b _ => absurd b (by omega)), rfl⟩
    case round =>
      obtain ⟨l, hl1, hl5, HL, rfl⟩ := hrel
      by_cases hl : l ≤ 4
      · go_wp2_with fail
        go_loop [7] (fun y => ∃ m : Nat, m ≤ 8 ∧ Hid (∀ k, k < m → 3 < wt (cw (8 * bl l + k) 1335 ^^^ (x' ^^^ 21522))) ∧ y = .int .i64 m) (fun y => 8 - (intOf y).toNat)
        case atStart => exact ⟨0, by omega, Lib.hid (fun k a => absurd a (by omega)), rfl⟩
        case round =>
          obtain ⟨m, hm, HN, rfl⟩ := hrel
          by_cases hm8 : m < 8
          · have hbl := bl_lt l
            have hcl := cw_lt30 (8 * bl l + m) 1335 (by omega) (by omega) (by omega)
            obtain ⟨c, hc⟩ : ∃ c, c = cw (8 * bl l + m) 1335 ^^^ (x' ^^^ 21522) := ⟨_, rfl⟩
            have hx2 := (xor_f x' hx).2
            have hcb : c < 1073741824 := by rw [hc]; exact Nat.xor_lt_two_pow (n := 30) hcl (by omega)
            have hcl2 : cw (8 * bl l + m) 1335 ^^^ 21522 < 1073741824 := Nat.xor_lt_two_pow (n := 30) hcl (by omega)
            have HX : Hid (bits .xor .i64 ((cw (8 * bl l + m) 1335 ^^^ 21522 : Nat) : Int) (x' : Int) = (c : Int)) := by
              show _ = _
              rw [i64_xor_nat _ _ (by omega) (by omega), hc, Nat.xor_assoc, Nat.xor_comm x']
            have hwl := wt_lt 30 _ hcb
            have HF := Lib.hid (fmtRes_at l m hl1 hl hm8)
            have HY : Hid (wt c ≤ 3 → R = ((l : Int), (m : Int), (wt c : Int), 0)) := by
              intro h; rw [HR.out, hc]; rw [hc] at h; exact pfN_yes x' l m hl1 hl hm8 h
            have HZ : Hid (3 < wt c → ∀ k, k < m + 1 → 3 < wt (cw (8 * bl l + k) 1335 ^^^ (x' ^^^ 21522))) := by
              intro h u hu
              by_cases e : u = m
              · subst e; rw [← hc]; exact h
              · exact HN.out u (by omega)
            clear hc hcl hcl2 hx2 hbl
            by_cases h3 : wt c ≤ 3
            · have HY3 := Lib.hid (HY.out h3)
              clear HY HZ
              go_wp2_with fail
              refine (rformat_any _ _ _).mono ?_
              rw [HF.out]
              rintro e w' ⟨rfl, rfl⟩
              simp only [two]
              go_wp2_with fail
              rw [HX.out]
              refine (weight_any c _ (by omega)).mono ?_
              rintro e w' ⟨rfl, rfl⟩
              go_wp2_with fail
              refine bodyPost_ret (results_tmp4 rfl _ _ _) rfl ?_
              exact ⟨by rw [HY3.out]; rfl, rfl⟩
            · have HZ3 := Lib.hid (HZ.out (by omega))
              clear HY HZ
              go_wp2_with fail
              refine (rformat_any _ _ _).mono ?_
              rw [HF.out]
              rintro e w' ⟨rfl, rfl⟩
              simp only [two]
              go_wp2_with fail
              rw [HX.out]
              refine (weight_any c _ (by omega)).mono ?_
              rintro e w' ⟨rfl, rfl⟩
              go_wp2_with fail
              go_round
              case rel => exact ⟨m + 1, by omega, HZ3, int_eq (by omega)⟩
              case measure => simp [intOf]; omega
          · have HL2 : Hid (∀ k m, 1 ≤ k → k < l + 1 → m < 8 → 3 < wt (cw (8 * bl k + m) 1335 ^^^ (x' ^^^ 21522))) := by
              intro k j a b c
              by_cases e : k = l
              · subst e; exact HN.out j (by omega)
              · exact HL.out k j a (by omega) c
            clear HL HN
            go_wp2_with fail
            go_round
            case rel => exact ⟨l + 1, by omega, by omega, HL2, int_eq (by omega)⟩
            case measure => simp [intOf]; omega
      · have HE : Hid (R = (0, 0, 0, 21)) := by show _ = _; rw [HR.out]; exact pfN_no x' (fun k m a b c => HL.out k m a (by omega) c)
        go_wp2_with fail
        refine bodyPost_ret (results_tmp4 rfl _ _ _) rfl ?_
        exact ⟨by rw [HE.out]; rfl, rfl⟩

end Go.Proofs.Ytddlklnmmnohhaa
