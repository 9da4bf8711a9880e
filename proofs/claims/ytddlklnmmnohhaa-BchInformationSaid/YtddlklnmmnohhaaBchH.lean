/-
  Contracts of Format and Version, the package's and the reference's; the examples.
  Conditions: none.
-/
import Derived.Test.YtddlklnmmnohhaaBchG
namespace Go.Proofs.Ytddlklnmmnohhaa
open Go.RowKit Go.Bs Go.Bch

def fmtB (b : Nat) (m : Int) : Int × Int := if m < 0 ∨ 7 < m then (0, 3) else ((cw (8 * b + m.toNat) 1335 ^^^ 21522 : Nat), 0)
theorem fmtB_1 {b : Nat} {m : Int} (h : m < 0 ∨ 7 < m) : fmtB b m = (0, 3) := by unfold fmtB; rw [if_pos h]
theorem fmtB_2 {b : Nat} {m : Nat} (h : m ≤ 7) : fmtB b m = (((cw (8 * b + m) 1335 ^^^ 21522 : Nat) : Int), 0) := by unfold fmtB; rw [if_neg (by omega)]; rfl
def fmtRes (l m : Int) : Int × Int := if l = 1 then fmtB 1 m else if l = 2 then fmtB 0 m else if l = 3 then fmtB 3 m else if l = 4 then fmtB 2 m else (0, 15)
theorem fmtRes_5 {l m : Int} (h1 : l ≠ 1) (h2 : l ≠ 2) (h3 : l ≠ 3) (h4 : l ≠ 4) : fmtRes l m = (0, 15) := by
  unfold fmtRes; rw [if_neg h1, if_neg h2, if_neg h3, if_neg h4]

def verRes (n : Int) : Int × Int := if n < 7 ∨ 40 < n then (0, 14) else (cw n.toNat 7973, 0)
theorem verRes_1 {n : Int} (h : n < 7 ∨ 40 < n) : verRes n = (0, 14) := by unfold verRes; rw [if_pos h]
theorem verRes_2 {n : Nat} (h : ¬ ((n : Int) < 7 ∨ 40 < (n : Int))) : verRes n = ((cw n 7973 : Int), 0) := by unfold verRes; rw [if_neg h]; rfl

theorem cw_lt30 (v g : Nat) (hv : v < 4096) (hg1 : 3 ≤ g) (hg2 : g < 524288) : cw v g < 1073741824 := by
  have hb := deg_bd g hg1 hg2
  have := cw_lt g v 12 hg1 hv (by omega)
  have h3 := pow2_le (12 + g.log2) 30 (by omega)
  exact Nat.lt_of_lt_of_le this h3

set_option maxRecDepth 20000 in
theorem format_1 (m : Int) (w : World) :
    Calls Try.prog 20 #[.int .i64 1, .int .i64 m] w fun e w' => e = .returned (two (fmtB 1 m)) ∧ w = w' := by
  by_cases hm : m < 0 ∨ 7 < m
  · rw [fmtB_1 hm]
    rcases Int.lt_or_le m 0 with h0 | h0
    all_goals
      first | (have h7 : 7 < m := by omega) | skip
      clear hm
      go_enter Try.func20, Try.ntmps20
      go_wp2_with fail
      go_ret2
      exact ⟨rfl, rfl⟩
  · obtain ⟨m', rfl⟩ : ∃ m' : Nat, m = m' := ⟨m.toNat, by omega⟩
    have h7 : m' ≤ 7 := by omega
    rw [fmtB_2 h7]
    clear hm
    have hcl := cw_lt30 (8 * 1 + m') 1335 (by omega) (by omega) (by omega)
    have HX := Lib.hid (i64_xor_nat (cw (8 * 1 + m') 1335) 21522 (by omega) (by omega))
    go_enter Try.func20, Try.ntmps20
    go_wp2_with fail
    first | rw [show (8 : Int) + (m' : Int) = ((8 * 1 + m' : Nat) : Int) from by omega] | rw [show (m' : Int) = ((8 * 1 + m' : Nat) : Int) from by omega]
    refine (codeword_any (8 * 1 + m') 1335 _ (by omega) (by omega) (by omega)).mono ?_
    rintro e w' ⟨rfl, rfl⟩
    go_wp2_with fail
    go_ret2
    exact ⟨by rw [← HX.out]; first | rfl | (rw [show 8 * 0 + m' = m' from by omega]; rfl), rfl⟩

set_option maxRecDepth 20000 in
theorem format_2 (m : Int) (w : World) :
    Calls Try.prog 20 #[.int .i64 2, .int .i64 m] w fun e w' => e = .returned (two (fmtB 0 m)) ∧ w = w' := by
  by_cases hm : m < 0 ∨ 7 < m
  · rw [fmtB_1 hm]
    rcases Int.lt_or_le m 0 with h0 | h0
    all_goals
      first | (have h7 : 7 < m := by omega) | skip
      clear hm
      go_enter Try.func20, Try.ntmps20
      go_wp2_with fail
      go_ret2
      exact ⟨rfl, rfl⟩
  · obtain ⟨m', rfl⟩ : ∃ m' : Nat, m = m' := ⟨m.toNat, by omega⟩
    have h7 : m' ≤ 7 := by omega
    rw [fmtB_2 h7]
    clear hm
    have hcl := cw_lt30 (8 * 0 + m') 1335 (by omega) (by omega) (by omega)
    have HX := Lib.hid (i64_xor_nat (cw (8 * 0 + m') 1335) 21522 (by omega) (by omega))
    go_enter Try.func20, Try.ntmps20
    go_wp2_with fail
    first | rw [show (0 : Int) + (m' : Int) = ((8 * 0 + m' : Nat) : Int) from by omega] | rw [show (m' : Int) = ((8 * 0 + m' : Nat) : Int) from by omega]
    refine (codeword_any (8 * 0 + m') 1335 _ (by omega) (by omega) (by omega)).mono ?_
    rintro e w' ⟨rfl, rfl⟩
    go_wp2_with fail
    go_ret2
    exact ⟨by rw [← HX.out]; first | rfl | (rw [show 8 * 0 + m' = m' from by omega]; rfl), rfl⟩

set_option maxRecDepth 20000 in
theorem format_3 (m : Int) (w : World) :
    Calls Try.prog 20 #[.int .i64 3, .int .i64 m] w fun e w' => e = .returned (two (fmtB 3 m)) ∧ w = w' := by
  by_cases hm : m < 0 ∨ 7 < m
  · rw [fmtB_1 hm]
    rcases Int.lt_or_le m 0 with h0 | h0
    all_goals
      first | (have h7 : 7 < m := by omega) | skip
      clear hm
      go_enter Try.func20, Try.ntmps20
      go_wp2_with fail
      go_ret2
      exact ⟨rfl, rfl⟩
  · obtain ⟨m', rfl⟩ : ∃ m' : Nat, m = m' := ⟨m.toNat, by omega⟩
    have h7 : m' ≤ 7 := by omega
    rw [fmtB_2 h7]
    clear hm
    have hcl := cw_lt30 (8 * 3 + m') 1335 (by omega) (by omega) (by omega)
    have HX := Lib.hid (i64_xor_nat (cw (8 * 3 + m') 1335) 21522 (by omega) (by omega))
    go_enter Try.func20, Try.ntmps20
    go_wp2_with fail
    first | rw [show (24 : Int) + (m' : Int) = ((8 * 3 + m' : Nat) : Int) from by omega] | rw [show (m' : Int) = ((8 * 3 + m' : Nat) : Int) from by omega]
    refine (codeword_any (8 * 3 + m') 1335 _ (by omega) (by omega) (by omega)).mono ?_
    rintro e w' ⟨rfl, rfl⟩
    go_wp2_with fail
    go_ret2
    exact ⟨by rw [← HX.out]; first | rfl | (rw [show 8 * 0 + m' = m' from by omega]; rfl), rfl⟩

set_option maxRecDepth 20000 in
theorem format_4 (m : Int) (w : World) :
    Calls Try.prog 20 #[.int .i64 4, .int .i64 m] w fun e w' => e = .returned (two (fmtB 2 m)) ∧ w = w' := by
  by_cases hm : m < 0 ∨ 7 < m
  · rw [fmtB_1 hm]
    rcases Int.lt_or_le m 0 with h0 | h0
    all_goals
      first | (have h7 : 7 < m := by omega) | skip
      clear hm
      go_enter Try.func20, Try.ntmps20
      go_wp2_with fail
      go_ret2
      exact ⟨rfl, rfl⟩
  · obtain ⟨m', rfl⟩ : ∃ m' : Nat, m = m' := ⟨m.toNat, by omega⟩
    have h7 : m' ≤ 7 := by omega
    rw [fmtB_2 h7]
    clear hm
    have hcl := cw_lt30 (8 * 2 + m') 1335 (by omega) (by omega) (by omega)
    have HX := Lib.hid (i64_xor_nat (cw (8 * 2 + m') 1335) 21522 (by omega) (by omega))
    go_enter Try.func20, Try.ntmps20
    go_wp2_with fail
    first | rw [show (16 : Int) + (m' : Int) = ((8 * 2 + m' : Nat) : Int) from by omega] | rw [show (m' : Int) = ((8 * 2 + m' : Nat) : Int) from by omega]
    refine (codeword_any (8 * 2 + m') 1335 _ (by omega) (by omega) (by omega)).mono ?_
    rintro e w' ⟨rfl, rfl⟩
    go_wp2_with fail
    go_ret2
    exact ⟨by rw [← HX.out]; first | rfl | (rw [show 8 * 0 + m' = m' from by omega]; rfl), rfl⟩

set_option maxRecDepth 20000 in
theorem format_any (l m : Int) (w : World) :
    Calls Try.prog 20 #[.int .i64 l, .int .i64 m] w fun e w' => e = .returned (two (fmtRes l m)) ∧ w = w' := by
  by_cases h1 : l = 1
  · subst h1; exact format_1 m w
  by_cases h2 : l = 2
  · subst h2; exact format_2 m w
  by_cases h3 : l = 3
  · subst h3; exact format_3 m w
  by_cases h4 : l = 4
  · subst h4; exact format_4 m w
  rw [fmtRes_5 h1 h2 h3 h4]
  have e1 : (l == 1) = false := by rw [beq_eq_false_iff_ne]; exact h1
  have e2 : (l == 2) = false := by rw [beq_eq_false_iff_ne]; exact h2
  have e3 : (l == 3) = false := by rw [beq_eq_false_iff_ne]; exact h3
  have e4 : (l == 4) = false := by rw [beq_eq_false_iff_ne]; exact h4
  clear h1 h2 h3 h4
  go_enter Try.func20, Try.ntmps20
  go_wp2_with fail
  go_ret2
  exact ⟨rfl, rfl⟩

set_option maxRecDepth 20000 in
theorem rformat_1 (m : Int) (w : World) :
    Calls Try.prog 21 #[.int .i64 1, .int .i64 m] w fun e w' => e = .returned (two (fmtB 1 m)) ∧ w = w' := by
  by_cases hm : m < 0 ∨ 7 < m
  · rw [fmtB_1 hm]
    rcases Int.lt_or_le m 0 with h0 | h0
    all_goals
      first | (have h7 : 7 < m := by omega) | skip
      clear hm
      go_enter Try.func21, Try.ntmps21
      go_wp2_with fail
      go_ret2
      exact ⟨rfl, rfl⟩
  · obtain ⟨m', rfl⟩ : ∃ m' : Nat, m = m' := ⟨m.toNat, by omega⟩
    have h7 : m' ≤ 7 := by omega
    rw [fmtB_2 h7]
    clear hm
    have hcl := cw_lt30 (8 * 1 + m') 1335 (by omega) (by omega) (by omega)
    have HX := Lib.hid (i64_xor_nat (cw (8 * 1 + m') 1335) 21522 (by omega) (by omega))
    go_enter Try.func21, Try.ntmps21
    go_wp2_with fail
    first | rw [show (8 : Int) + (m' : Int) = ((8 * 1 + m' : Nat) : Int) from by omega] | rw [show (m' : Int) = ((8 * 1 + m' : Nat) : Int) from by omega]
    refine (rcodeword_any (8 * 1 + m') 1335 _ (by omega) (by omega) (by omega)).mono ?_
    rintro e w' ⟨rfl, rfl⟩
    go_wp2_with fail
    go_ret2
    exact ⟨by rw [← HX.out]; first | rfl | (rw [show 8 * 0 + m' = m' from by omega]; rfl), rfl⟩

set_option maxRecDepth 20000 in
theorem rformat_2 (m : Int) (w : World) :
    Calls Try.prog 21 #[.int .i64 2, .int .i64 m] w fun e w' => e = .returned (two (fmtB 0 m)) ∧ w = w' := by
  by_cases hm : m < 0 ∨ 7 < m
  · rw [fmtB_1 hm]
    rcases Int.lt_or_le m 0 with h0 | h0
    all_goals
      first | (have h7 : 7 < m := by omega) | skip
      clear hm
      go_enter Try.func21, Try.ntmps21
      go_wp2_with fail
      go_ret2
      exact ⟨rfl, rfl⟩
  · obtain ⟨m', rfl⟩ : ∃ m' : Nat, m = m' := ⟨m.toNat, by omega⟩
    have h7 : m' ≤ 7 := by omega
    rw [fmtB_2 h7]
    clear hm
    have hcl := cw_lt30 (8 * 0 + m') 1335 (by omega) (by omega) (by omega)
    have HX := Lib.hid (i64_xor_nat (cw (8 * 0 + m') 1335) 21522 (by omega) (by omega))
    go_enter Try.func21, Try.ntmps21
    go_wp2_with fail
    first | rw [show (0 : Int) + (m' : Int) = ((8 * 0 + m' : Nat) : Int) from by omega] | rw [show (m' : Int) = ((8 * 0 + m' : Nat) : Int) from by omega]
    refine (rcodeword_any (8 * 0 + m') 1335 _ (by omega) (by omega) (by omega)).mono ?_
    rintro e w' ⟨rfl, rfl⟩
    go_wp2_with fail
    go_ret2
    exact ⟨by rw [← HX.out]; first | rfl | (rw [show 8 * 0 + m' = m' from by omega]; rfl), rfl⟩

set_option maxRecDepth 20000 in
theorem rformat_3 (m : Int) (w : World) :
    Calls Try.prog 21 #[.int .i64 3, .int .i64 m] w fun e w' => e = .returned (two (fmtB 3 m)) ∧ w = w' := by
  by_cases hm : m < 0 ∨ 7 < m
  · rw [fmtB_1 hm]
    rcases Int.lt_or_le m 0 with h0 | h0
    all_goals
      first | (have h7 : 7 < m := by omega) | skip
      clear hm
      go_enter Try.func21, Try.ntmps21
      go_wp2_with fail
      go_ret2
      exact ⟨rfl, rfl⟩
  · obtain ⟨m', rfl⟩ : ∃ m' : Nat, m = m' := ⟨m.toNat, by omega⟩
    have h7 : m' ≤ 7 := by omega
    rw [fmtB_2 h7]
    clear hm
    have hcl := cw_lt30 (8 * 3 + m') 1335 (by omega) (by omega) (by omega)
    have HX := Lib.hid (i64_xor_nat (cw (8 * 3 + m') 1335) 21522 (by omega) (by omega))
    go_enter Try.func21, Try.ntmps21
    go_wp2_with fail
    first | rw [show (24 : Int) + (m' : Int) = ((8 * 3 + m' : Nat) : Int) from by omega] | rw [show (m' : Int) = ((8 * 3 + m' : Nat) : Int) from by omega]
    refine (rcodeword_any (8 * 3 + m') 1335 _ (by omega) (by omega) (by omega)).mono ?_
    rintro e w' ⟨rfl, rfl⟩
    go_wp2_with fail
    go_ret2
    exact ⟨by rw [← HX.out]; first | rfl | (rw [show 8 * 0 + m' = m' from by omega]; rfl), rfl⟩

set_option maxRecDepth 20000 in
theorem rformat_4 (m : Int) (w : World) :
    Calls Try.prog 21 #[.int .i64 4, .int .i64 m] w fun e w' => e = .returned (two (fmtB 2 m)) ∧ w = w' := by
  by_cases hm : m < 0 ∨ 7 < m
  · rw [fmtB_1 hm]
    rcases Int.lt_or_le m 0 with h0 | h0
    all_goals
      first | (have h7 : 7 < m := by omega) | skip
      clear hm
      go_enter Try.func21, Try.ntmps21
      go_wp2_with fail
      go_ret2
      exact ⟨rfl, rfl⟩
  · obtain ⟨m', rfl⟩ : ∃ m' : Nat, m = m' := ⟨m.toNat, by omega⟩
    have h7 : m' ≤ 7 := by omega
    rw [fmtB_2 h7]
    clear hm
    have hcl := cw_lt30 (8 * 2 + m') 1335 (by omega) (by omega) (by omega)
    have HX := Lib.hid (i64_xor_nat (cw (8 * 2 + m') 1335) 21522 (by omega) (by omega))
    go_enter Try.func21, Try.ntmps21
    go_wp2_with fail
    first | rw [show (16 : Int) + (m' : Int) = ((8 * 2 + m' : Nat) : Int) from by omega] | rw [show (m' : Int) = ((8 * 2 + m' : Nat) : Int) from by omega]
    refine (rcodeword_any (8 * 2 + m') 1335 _ (by omega) (by omega) (by omega)).mono ?_
    rintro e w' ⟨rfl, rfl⟩
    go_wp2_with fail
    go_ret2
    exact ⟨by rw [← HX.out]; first | rfl | (rw [show 8 * 0 + m' = m' from by omega]; rfl), rfl⟩

set_option maxRecDepth 20000 in
theorem rformat_any (l m : Int) (w : World) :
    Calls Try.prog 21 #[.int .i64 l, .int .i64 m] w fun e w' => e = .returned (two (fmtRes l m)) ∧ w = w' := by
  by_cases h1 : l = 1
  · subst h1; exact rformat_1 m w
  by_cases h2 : l = 2
  · subst h2; exact rformat_2 m w
  by_cases h3 : l = 3
  · subst h3; exact rformat_3 m w
  by_cases h4 : l = 4
  · subst h4; exact rformat_4 m w
  rw [fmtRes_5 h1 h2 h3 h4]
  have e1 : (l == 1) = false := by rw [beq_eq_false_iff_ne]; exact h1
  have e2 : (l == 2) = false := by rw [beq_eq_false_iff_ne]; exact h2
  have e3 : (l == 3) = false := by rw [beq_eq_false_iff_ne]; exact h3
  have e4 : (l == 4) = false := by rw [beq_eq_false_iff_ne]; exact h4
  clear h1 h2 h3 h4
  go_enter Try.func21, Try.ntmps21
  go_wp2_with fail
  go_ret2
  exact ⟨rfl, rfl⟩

set_option maxRecDepth 20000 in
theorem version_any (n : Int) (w : World) :
    Calls Try.prog 24 #[.int .i64 n] w fun e w' => e = .returned (two (verRes n)) ∧ w = w' := by
  by_cases hm : n < 7 ∨ 40 < n
  · rw [verRes_1 hm]
    rcases Int.lt_or_le n 7 with h0 | h0
    all_goals
      first | (have h7 : 40 < n := by omega) | skip
      clear hm
      go_enter Try.func24, Try.ntmps24
      go_wp2_with fail
      go_ret2
      exact ⟨rfl, rfl⟩
  · obtain ⟨n', rfl⟩ : ∃ n' : Nat, n = n' := ⟨n.toNat, by omega⟩
    rw [verRes_2 hm]
    have h7 : 7 ≤ n' := by omega
    have h40 : n' ≤ 40 := by omega
    clear hm
    go_enter Try.func24, Try.ntmps24
    go_wp2_with fail
    refine (codeword_any n' 7973 _ (by omega) (by omega) (by omega)).mono ?_
    rintro e w' ⟨rfl, rfl⟩
    go_wp2_with fail
    go_ret2
    exact ⟨rfl, rfl⟩

set_option maxRecDepth 20000 in
theorem rversion_any (n : Int) (w : World) :
    Calls Try.prog 25 #[.int .i64 n] w fun e w' => e = .returned (two (verRes n)) ∧ w = w' := by
  by_cases hm : n < 7 ∨ 40 < n
  · rw [verRes_1 hm]
    rcases Int.lt_or_le n 7 with h0 | h0
    all_goals
      first | (have h7 : 40 < n := by omega) | skip
      clear hm
      go_enter Try.func25, Try.ntmps25
      go_wp2_with fail
      go_ret2
      exact ⟨rfl, rfl⟩
  · obtain ⟨n', rfl⟩ : ∃ n' : Nat, n = n' := ⟨n.toNat, by omega⟩
    rw [verRes_2 hm]
    have h7 : 7 ≤ n' := by omega
    have h40 : n' ≤ 40 := by omega
    clear hm
    go_enter Try.func25, Try.ntmps25
    go_wp2_with fail
    refine (rcodeword_any n' 7973 _ (by omega) (by omega) (by omega)).mono ?_
    rintro e w' ⟨rfl, rfl⟩
    go_wp2_with fail
    go_ret2
    exact ⟨rfl, rfl⟩

theorem wt_pop (x : Nat) (h : x < 4294967296) : wt x = pop x := (pop_eq x h).symm

theorem ex1 : encRes 5 5 1335 = (5340, 0) := by
  rw [encRes_3 (by decide) (by decide)]; decide +kernel
theorem ex2 : fmtRes 2 5 = (16590, 0) := by decide +kernel
theorem ex3 : verRes 7 = (31892, 0) := by decide +kernel
theorem dist17 : dist 1 7 = 3 := by
  show min 31 (wt (cw 1 7)) = 3
  rw [wt_pop _ (by decide +kernel)]; decide +kernel
theorem ex4 : distRes 1 7 = (3, 0) := by
  unfold distRes; rw [if_pos (by decide)]; show ((dist 1 7 : Int), (0 : Int)) = _; rw [dist17]; rfl
theorem ex5 : decRes 6 1 7 = (1, 1, 0) := by
  have e : wt (cw 1 7 ^^^ 6) = 1 := by rw [wt_pop _ (by decide +kernel)]; decide +kernel
  rw [decRes_3 (by decide) (by decide +kernel)]
  show decN 6 1 7 = _
  rw [decN_at 6 1 7 1 (by decide) (by decide) (by decide) (by rw [e, dist17]; decide), e]
  rfl
theorem ex6 : fmtRes 1 8 = (0, 3) := by decide +kernel

set_option maxRecDepth 20000 in
set_option maxHeartbeats 400000 in
theorem examples_any (w : World) : Calls Try.prog 15 #[] w fun e w' => e = .returned (.bool true) ∧ w = w' := by
  go_enter Try.func15, Try.ntmps15
  go_wp2_with fail
  refine (encode_any _ _ _ _).mono ?_
  rw [ex1]
  rintro e w' ⟨rfl, rfl⟩
  simp only [two]
  go_wp2_with fail
  refine (format_any _ _ _).mono ?_
  rw [ex2]
  rintro e w' ⟨rfl, rfl⟩
  simp only [two]
  go_wp2_with fail
  refine (version_any _ _).mono ?_
  rw [ex3]
  rintro e w' ⟨rfl, rfl⟩
  simp only [two]
  go_wp2_with fail
  refine (distance_any _ _ _).mono ?_
  rw [ex4]
  rintro e w' ⟨rfl, rfl⟩
  simp only [two]
  go_wp2_with fail
  refine (decode_any _ _ _ _).mono ?_
  rw [ex5]
  rintro e w' ⟨rfl, rfl⟩
  simp only [three]
  go_wp2_with fail
  refine (format_any _ _ _).mono ?_
  rw [ex6]
  rintro e w' ⟨rfl, rfl⟩
  simp only [two]
  go_wp2_with fail
  go_ret
  exact ⟨rfl, rfl⟩

end Go.Proofs.Ytddlklnmmnohhaa
