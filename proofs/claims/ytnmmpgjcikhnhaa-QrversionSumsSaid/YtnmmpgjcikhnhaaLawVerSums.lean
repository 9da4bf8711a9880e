/-
  For every input QrversionSums returns true, and each argument reads afterwards as it read before (Rows.QrversionSumsSaid).
  No condition.
-/
import Derived.Test.YtnmmpgjcikhnhaaVerBase
namespace Go.Proofs.Ytnmmpgjcikhnhaa
open Go.RowKit Go.Bs Go.ChangeShapes Go.WideShapes Go.ChangeAt Go.Joins Go.Qrv

set_option maxRecDepth 20000 in
set_option maxHeartbeats 1000000 in
theorem sums_bad (v l : Int) (w : World) (HC : Hid (szRes v = (0, 14))) (HA : Hid (alRes v = ([], 14))) (HW : Hid (cwRes v = (0, 0, 14))) :
    Calls Try.prog 5 #[.int .i64 v, .int .i64 l] w fun e w' => e = .returned (.bool true) ∧ Ext w w' := by
  go_enter Try.func5, Try.ntmps5
  go_wp2_with fail
  refine (size_any _ _).mono ?_
  rw [HC.out]
  rintro e w' ⟨rfl, rfl⟩
  simp only [two]
  go_wp2_with fail
  refine (aligns_any _ _).mono ?_
  rw [HA.out]
  intro e w1 hret
  obtain ⟨b1, c1, rfl, hr1, _, _, _, hx1⟩ := hret.ints
  clear hret
  go_wp2_with fail
  refine (codewords_any _ _).mono ?_
  rw [HW.out]
  rintro e w2 ⟨rfl, hx2⟩
  simp only [three]
  go_wp2_with fail
  refine (alive_any _).mono ?_
  rintro e w6 ⟨rfl, hx6⟩
  go_wp2_with fail
  go_ret
  exact ⟨rfl, hx1.trans (hx2.trans hx6)⟩

/-- What the first half finds. -/
theorem sums_all : ∀ i : Fin 40, (al (i.val + 1)).length = na (i.val + 1) ∧ remN (i.val + 1) ≤ 7 ∧ 8 * wordsN (i.val + 1) + remN (i.val + 1) + other (i.val + 1) = sz (i.val + 1) * sz (i.val + 1) ∧ na (i.val + 1) ≤ 7 ∧ wordsN (i.val + 1) ≤ 3706 ∧ (2 ≤ i.val + 1 → 2 ≤ na (i.val + 1)) := by decide +kernel
theorem sums_at (n : Nat) (h1 : 1 ≤ n) (h2 : n ≤ 40) : (al n).length = na n ∧ remN n ≤ 7 ∧ 8 * wordsN n + remN n + other n = sz n * sz n ∧ na n ≤ 7 ∧ wordsN n ≤ 3706 ∧ (2 ≤ n → 2 ≤ na n) := by
  have := sums_all ⟨n - 1, by omega⟩
  simp only [show n - 1 + 1 = n by omega] at this
  exact this

set_option maxRecDepth 20000 in
set_option maxHeartbeats 2000000 in
theorem sums_badl (n : Nat) (l : Int) (w : World) (h1 : 1 ≤ n) (h2 : n ≤ 40) (hl : l < 1 ∨ 4 < l) :
    Calls Try.prog 5 #[.int .i64 n, .int .i64 l] w fun e w' => e = .returned (.bool true) ∧ Ext w w' := by
  have HC := Lib.hid (szRes_1 (v := n) ⟨by omega, by omega⟩)
  have HA := Lib.hid (alRes_1 (v := n) ⟨by omega, by omega⟩)
  have HW := Lib.hid (cwRes_1 (v := n) ⟨by omega, by omega⟩)
  obtain ⟨f1, f2, f3, f4, f5, f6⟩ := sums_at n h1 h2
  have hoth : (other n : Int) = 192 + 2 * (17 + 4 * (n : Int) - 16) + 31 + (if 7 ≤ n then 36 else 0) + (if n = 1 then 0 else 25 * (((na n * na n : Nat) : Int) - 3) - 10 * ((na n : Int) - 2)) := by
    unfold other sz
    by_cases h : n = 1
    · subst h; rfl
    · have h6 := f6 (by omega)
      have : 2 * 2 ≤ na n * na n := Nat.mul_le_mul h6 h6
      have : 2 * na n ≤ na n * na n := Nat.mul_le_mul_right _ h6
      have : na n * na n ≤ 7 * na n := Nat.mul_le_mul_right _ f4
      rw [if_neg h, if_neg h]
      split <;> omega
  obtain ⟨L, hL⟩ : ∃ L, L = al n := ⟨_, rfl⟩
  obtain ⟨N, hN⟩ : ∃ N, N = wordsN n := ⟨_, rfl⟩
  obtain ⟨r, hr⟩ : ∃ r, r = remN n := ⟨_, rfl⟩
  obtain ⟨a, ha⟩ : ∃ a, a = na n := ⟨_, rfl⟩
  rw [← hL] at HA f1
  rw [← hN] at HW f3 f5
  rw [← hr] at HW f2 f3
  rw [← ha] at f1 f4 f6 hoth
  have hA2 : wrap64 ((a : Int) * (a : Int)) = ((a * a : Nat) : Int) := by
    have : a * a ≤ 7 * 7 := Nat.mul_le_mul f4 f4
    rw [Int.natCast_mul]; exact IntWalk.wrap64_in _ ⟨by rw [← Int.natCast_mul]; omega, by rw [← Int.natCast_mul]; omega⟩
  have hS2 : wrap64 ((17 + 4 * (n : Int)) * (17 + 4 * (n : Int))) = ((sz n * sz n : Nat) : Int) := by
    have h : sz n ≤ 177 := by unfold sz; omega
    have : sz n * sz n ≤ 177 * 177 := Nat.mul_le_mul h h
    rw [show 17 + 4 * (n : Int) = (sz n : Int) by unfold sz; omega, ← Int.natCast_mul]
    exact IntWalk.wrap64_in _ ⟨by omega, by omega⟩
  have hAb : a * a ≤ 49 := Nat.mul_le_mul f4 f4
  have hsb : sz n * sz n ≤ 31329 := by
    have h : sz n ≤ 177 := by unfold sz; omega
    exact Nat.mul_le_mul h h
  obtain ⟨A2, hA2'⟩ : ∃ A2, A2 = a * a := ⟨_, rfl⟩
  obtain ⟨S2, hS2'⟩ : ∃ S2, S2 = sz n * sz n := ⟨_, rfl⟩
  rw [← hA2'] at hA2 hoth hAb
  rw [← hS2'] at hS2 hsb f3
  have hf3 : (8 * (N : Int) + (r : Int) + (other n : Int)) = (S2 : Int) := by omega
  rw [hoth] at hf3
  have HF1 := Lib.hid f1
  have HNA := Lib.hid ha
  have HNN := Lib.hid hN
  clear hL hN hr ha f3 hoth hA2' hS2' f1
  have HST := Lib.hid (stRes_2 (v := n) (l := l) ⟨by omega, by omega⟩ hl)
  have HCP := Lib.hid (cpRes_2 (v := n) (l := l) ⟨by omega, by omega⟩ hl)
  have hl' : (decide (l < 1) || decide (4 < l)) = true := by simp; omega
  have HL := Lib.hid hl
  clear hl
  by_cases hn1 : n = 1
  · subst hn1
    obtain rfl : a = 0 := by have := HNA.out; rw [this]; rfl
    rw [if_neg (by omega), if_pos rfl] at hf3
    have HF3 := Lib.hid hf3
    clear hf3 f6 hA2
    rw [show ((1 : Nat) : Int) = 1 from rfl] at *
    have HS441 : Hid ((S2 : Int) = 441) := by show _ = _; rw [← hS2]; decide +kernel
    go_enter Try.func5, Try.ntmps5
    go_wp2_with fail
    refine (size_any _ _).mono ?_
    rw [HC.out]
    rintro e w' ⟨rfl, rfl⟩
    simp only [two]
    go_wp2_with fail
    refine (aligns_any _ _).mono ?_
    rw [HA.out]
    intro e w1 hret
    obtain ⟨b1, c1, rfl, hr1, _, _, _, hx1⟩ := hret.ints
    clear hret hr1
    rw [HF1.out]
    go_wp2_with fail
    refine (codewords_any _ _).mono ?_
    rw [HW.out]
    rintro e w2 ⟨rfl, hx2⟩
    simp only [three]
    go_wp2_with fail
    · skip
      refine (structure_any _ _ _).mono ?_
      rw [HST.out]
      rintro e w3 ⟨rfl, hx3⟩
      simp only [blkV]
      go_wp2_with fail
      refine (capacity_any _ _ _).mono ?_
      rw [HCP.out]
      rintro e w4 ⟨rfl, hx4⟩
      simp only [two]
      rcases Int.lt_or_le l 1 with h0 | h0
      all_goals
        first | (have h4 : 4 < l := by have := HL.out; omega) | skip
        go_wp2_with fail
        refine (alive_any _).mono ?_
        rintro e w6 ⟨rfl, hx6⟩
        go_wp2_with fail
        go_ret
        exact ⟨rfl, hx1.trans (hx2.trans (hx3.trans ((Ext.alloc _ _).trans (hx4.trans hx6))))⟩
    · exfalso; have := HF3.out; have := HS441.out; omega
  · rw [if_neg hn1] at hf3
    have hn2 : 2 ≤ n := by omega
    have ha2 := f6 hn2
    have hap : 0 < a := by omega
    clear f6
    by_cases h7 : 7 ≤ n
    · rw [if_pos h7] at hf3
      have HF3 := Lib.hid hf3
      clear hf3
      go_enter Try.func5, Try.ntmps5
      go_wp2_with fail
      refine (size_any _ _).mono ?_
      rw [HC.out]
      rintro e w' ⟨rfl, rfl⟩
      simp only [two]
      go_wp2_with fail
      refine (aligns_any _ _).mono ?_
      rw [HA.out]
      intro e w1 hret
      obtain ⟨b1, c1, rfl, hr1, _, _, _, hx1⟩ := hret.ints
      clear hret hr1
      rw [HF1.out]
      go_wp2_with fail
      refine (codewords_any _ _).mono ?_
      rw [HW.out]
      rintro e w2 ⟨rfl, hx2⟩
      simp only [three]
      go_wp2_with fail
      · skip
        refine (structure_any _ _ _).mono ?_
        rw [HST.out]
        rintro e w3 ⟨rfl, hx3⟩
        simp only [blkV]
        go_wp2_with fail
        refine (capacity_any _ _ _).mono ?_
        rw [HCP.out]
        rintro e w4 ⟨rfl, hx4⟩
        simp only [two]
        rcases Int.lt_or_le l 1 with h0 | h0
        all_goals
          first | (have h4 : 4 < l := by have := HL.out; omega) | skip
          go_wp2_with fail
          refine (alive_any _).mono ?_
          rintro e w6 ⟨rfl, hx6⟩
          go_wp2_with fail
          go_ret
          exact ⟨rfl, hx1.trans (hx2.trans (hx3.trans ((Ext.alloc _ _).trans (hx4.trans hx6))))⟩
      · exfalso; have := HF3.out; omega
    · rw [if_neg h7] at hf3
      have HF3 := Lib.hid hf3
      clear hf3
      go_enter Try.func5, Try.ntmps5
      go_wp2_with fail
      refine (size_any _ _).mono ?_
      rw [HC.out]
      rintro e w' ⟨rfl, rfl⟩
      simp only [two]
      go_wp2_with fail
      refine (aligns_any _ _).mono ?_
      rw [HA.out]
      intro e w1 hret
      obtain ⟨b1, c1, rfl, hr1, _, _, _, hx1⟩ := hret.ints
      clear hret hr1
      rw [HF1.out]
      go_wp2_with fail
      refine (codewords_any _ _).mono ?_
      rw [HW.out]
      rintro e w2 ⟨rfl, hx2⟩
      simp only [three]
      go_wp2_with fail
      · skip
        refine (structure_any _ _ _).mono ?_
        rw [HST.out]
        rintro e w3 ⟨rfl, hx3⟩
        simp only [blkV]
        go_wp2_with fail
        refine (capacity_any _ _ _).mono ?_
        rw [HCP.out]
        rintro e w4 ⟨rfl, hx4⟩
        simp only [two]
        rcases Int.lt_or_le l 1 with h0 | h0
        all_goals
          first | (have h4 : 4 < l := by have := HL.out; omega) | skip
          go_wp2_with fail
          refine (alive_any _).mono ?_
          rintro e w6 ⟨rfl, hx6⟩
          go_wp2_with fail
          go_ret
          exact ⟨rfl, hx1.trans (hx2.trans (hx3.trans ((Ext.alloc _ _).trans (hx4.trans hx6))))⟩
      · exfalso; have := HF3.out; omega

set_option maxRecDepth 20000 in
set_option maxHeartbeats 2000000 in
theorem sums_good (n k : Nat) (w : World) (h1 : 1 ≤ n) (h2 : n ≤ 40) (hk1 : 1 ≤ k) (hk4 : k ≤ 4) :
    Calls Try.prog 5 #[.int .i64 n, .int .i64 k] w fun e w' => e = .returned (.bool true) ∧ Ext w w' := by
  have HC := Lib.hid (szRes_1 (v := n) ⟨by omega, by omega⟩)
  have HA := Lib.hid (alRes_1 (v := n) ⟨by omega, by omega⟩)
  have HW := Lib.hid (cwRes_1 (v := n) ⟨by omega, by omega⟩)
  obtain ⟨f1, f2, f3, f4, f5, f6⟩ := sums_at n h1 h2
  have hoth : (other n : Int) = 192 + 2 * (17 + 4 * (n : Int) - 16) + 31 + (if 7 ≤ n then 36 else 0) + (if n = 1 then 0 else 25 * (((na n * na n : Nat) : Int) - 3) - 10 * ((na n : Int) - 2)) := by
    unfold other sz
    by_cases h : n = 1
    · subst h; rfl
    · have h6 := f6 (by omega)
      have : 2 * 2 ≤ na n * na n := Nat.mul_le_mul h6 h6
      have : 2 * na n ≤ na n * na n := Nat.mul_le_mul_right _ h6
      have : na n * na n ≤ 7 * na n := Nat.mul_le_mul_right _ f4
      rw [if_neg h, if_neg h]
      split <;> omega
  obtain ⟨L, hL⟩ : ∃ L, L = al n := ⟨_, rfl⟩
  obtain ⟨N, hN⟩ : ∃ N, N = wordsN n := ⟨_, rfl⟩
  obtain ⟨r, hr⟩ : ∃ r, r = remN n := ⟨_, rfl⟩
  obtain ⟨a, ha⟩ : ∃ a, a = na n := ⟨_, rfl⟩
  rw [← hL] at HA f1
  rw [← hN] at HW f3 f5
  rw [← hr] at HW f2 f3
  rw [← ha] at f1 f4 f6 hoth
  have hA2 : wrap64 ((a : Int) * (a : Int)) = ((a * a : Nat) : Int) := by
    have : a * a ≤ 7 * 7 := Nat.mul_le_mul f4 f4
    rw [Int.natCast_mul]; exact IntWalk.wrap64_in _ ⟨by rw [← Int.natCast_mul]; omega, by rw [← Int.natCast_mul]; omega⟩
  have hS2 : wrap64 ((17 + 4 * (n : Int)) * (17 + 4 * (n : Int))) = ((sz n * sz n : Nat) : Int) := by
    have h : sz n ≤ 177 := by unfold sz; omega
    have : sz n * sz n ≤ 177 * 177 := Nat.mul_le_mul h h
    rw [show 17 + 4 * (n : Int) = (sz n : Int) by unfold sz; omega, ← Int.natCast_mul]
    exact IntWalk.wrap64_in _ ⟨by omega, by omega⟩
  have hAb : a * a ≤ 49 := Nat.mul_le_mul f4 f4
  have hsb : sz n * sz n ≤ 31329 := by
    have h : sz n ≤ 177 := by unfold sz; omega
    exact Nat.mul_le_mul h h
  obtain ⟨A2, hA2'⟩ : ∃ A2, A2 = a * a := ⟨_, rfl⟩
  obtain ⟨S2, hS2'⟩ : ∃ S2, S2 = sz n * sz n := ⟨_, rfl⟩
  rw [← hA2'] at hA2 hoth hAb
  rw [← hS2'] at hS2 hsb f3
  have hf3 : (8 * (N : Int) + (r : Int) + (other n : Int)) = (S2 : Int) := by omega
  rw [hoth] at hf3
  have HF1 := Lib.hid f1
  have HNA := Lib.hid ha
  have HNN := Lib.hid hN
  clear hL hN hr ha f3 hoth hA2' hS2' f1
  have HST : Hid (stRes n k = (((blk k n : Int) - (dataN n k % blk k n : Nat), ((dataN n k % blk k n : Nat) : Int), ((dataN n k / blk k n : Nat) : Int), (chk k n : Int)), 0)) := stRes_3 (v := n) (l := k) ⟨by omega, by omega⟩ ⟨hk1, hk4⟩
  have HCP := Lib.hid (cpRes_3 (v := n) (l := k) ⟨by omega, by omega⟩ ⟨hk1, hk4⟩)
  have hsh := shares_at n k h1 h2 hk1 hk4
  rw [← HNN.out] at hsh
  have hdd : (dataN n k) + chk k n * blk k n = N := by unfold dataN; rw [← HNN.out]; omega
  have hdm := Nat.div_add_mod (dataN n k) (blk k n)
  have hml : dataN n k % blk k n < blk k n := Nat.mod_lt _ (by omega)
  have hq1 : 1 ≤ dataN n k / blk k n := by
    rcases Nat.eq_zero_or_pos (dataN n k / blk k n) with h | h
    · rw [h] at hdm; omega
    · exact h
  obtain ⟨D, hD⟩ : ∃ D, D = dataN n k := ⟨_, rfl⟩
  obtain ⟨B, hB⟩ : ∃ B, B = blk k n := ⟨_, rfl⟩
  obtain ⟨C, hC⟩ : ∃ C, C = chk k n := ⟨_, rfl⟩
  rw [← hD, ← hB] at hdm hml hq1
  rw [← hD, ← hB, ← hC] at HST hdd
  rw [← hD] at HCP
  rw [← hB, ← hC] at hsh
  obtain ⟨q, hq⟩ : ∃ q, q = D / B := ⟨_, rfl⟩
  obtain ⟨m, hm⟩ : ∃ m, m = D % B := ⟨_, rfl⟩
  rw [← hq, ← hm] at hdm HST
  rw [← hm] at hml
  rw [← hq] at hq1
  clear hD hB hC hq hm
  obtain ⟨c1, c2, b1, b2, _, _⟩ := hsh
  have hqD : q ≤ D := by
    have : 1 * q ≤ B * q := Nat.mul_le_mul_right _ b1
    omega
  have hX : (B - m) * q + m * (q + 1) = D := by
    rw [Nat.sub_mul, Nat.mul_add, Nat.mul_one, ← hdm]
    have : m * q ≤ B * q := Nat.mul_le_mul_right _ (by omega)
    omega
  obtain ⟨X, hXX⟩ : ∃ X, X = (B - m) * q := ⟨_, rfl⟩
  obtain ⟨Y, hYY⟩ : ∃ Y, Y = m * (q + 1) := ⟨_, rfl⟩
  obtain ⟨M, hMM⟩ : ∃ M, M = C * B := ⟨_, rfl⟩
  rw [← hXX, ← hYY] at hX
  rw [← hMM] at hdd
  have hDq : D ≤ 3706 ∧ q ≤ 3706 := by clear hXX hYY hMM hdm hX hA2 hS2; omega
  have hXY : X ≤ 3706 ∧ Y ≤ 3706 ∧ M ≤ 3706 := by clear hXX hYY hMM hdm hA2 hS2; omega
  obtain ⟨hDb, hqb⟩ := hDq
  have t1 : ((D : Int) == (X : Int) + (Y : Int)) = true := by clear hXX hYY hMM hdm hA2 hS2; simp; omega
  have t2 : ((X : Int) + (Y : Int) + (M : Int) == (N : Int)) = true := by clear hXX hYY hMM hdm hA2 hS2; simp; omega
  have t3 : 1 ≤ (B : Int) - (m : Int) := by clear hXX hYY hMM hdm hA2 hS2; omega
  have t4 : 0 ≤ (B : Int) - (m : Int) := by clear hXX hYY hMM hdm hA2 hS2; omega
  have hXw : wrap64 (((B : Int) - (m : Int)) * (q : Int)) = (X : Int) := by
    rw [show (B : Int) - (m : Int) = ((B - m : Nat) : Int) from (Int.ofNat_sub (Nat.le_of_lt hml)).symm, ← Int.natCast_mul, ← hXX]
    exact wrap_nat _ (Nat.le_trans hXY.1 (by decide))
  have hYw : wrap64 ((m : Int) * ((q : Int) + 1)) = (Y : Int) := by
    rw [show (q : Int) + 1 = ((q + 1 : Nat) : Int) from rfl, ← Int.natCast_mul, ← hYY]
    exact wrap_nat _ (Nat.le_trans hXY.2.1 (by decide))
  have hMw : wrap64 ((B : Int) * (C : Int)) = (M : Int) := by
    rw [Int.mul_comm, ← Int.natCast_mul, ← hMM]
    exact wrap_nat _ (Nat.le_trans hXY.2.2 (by decide))
  clear hXX hYY hMM hdm
  obtain ⟨hXb, hYb, hMb⟩ := hXY
  have HX0 := Lib.hid hX
  have HD0 := Lib.hid hdd
  clear hX hdd
  by_cases hn1 : n = 1
  · subst hn1
    obtain rfl : a = 0 := by have := HNA.out; rw [this]; rfl
    rw [if_neg (by omega), if_pos rfl] at hf3
    have HF3 := Lib.hid hf3
    clear hf3 f6 hA2
    rw [show ((1 : Nat) : Int) = 1 from rfl] at *
    have HS441 : Hid ((S2 : Int) = 441) := by show _ = _; rw [← hS2]; decide +kernel
    go_enter Try.func5, Try.ntmps5
    go_wp2_with fail
    refine (size_any _ _).mono ?_
    rw [HC.out]
    rintro e w' ⟨rfl, rfl⟩
    simp only [two]
    go_wp2_with fail
    refine (aligns_any _ _).mono ?_
    rw [HA.out]
    intro e w1 hret
    obtain ⟨b1, c1, rfl, hr1, _, _, _, hx1⟩ := hret.ints
    clear hret hr1
    rw [HF1.out]
    go_wp2_with fail
    refine (codewords_any _ _).mono ?_
    rw [HW.out]
    rintro e w2 ⟨rfl, hx2⟩
    simp only [three]
    go_wp2_with fail
    · skip
      refine (structure_any _ _ _).mono ?_
      rw [HST.out]
      rintro e w3 ⟨rfl, hx3⟩
      simp only [blkV]
      go_wp2_with fail
      refine (capacity_any _ _ _).mono ?_
      rw [HCP.out]
      rintro e w4 ⟨rfl, hx4⟩
      simp only [two]
      have hb := hx4.new
      have z0 := cell_of_row _ _ 0 _ _ _ hb
      have z1 := cell_of_row _ _ 1 _ _ _ hb
      have z2 := cell_of_row _ _ 2 _ _ _ hb
      have z3 := cell_of_row _ _ 3 _ _ _ hb
      simp only [List.getElem?_toArray, List.getElem?_cons_zero, List.getElem?_cons_succ] at z0 z1 z2 z3
      clear hb
      go_wp2_with fail
      refine (alive_any _).mono ?_
      rintro e w6 ⟨rfl, hx6⟩
      go_wp2_with fail
      go_ret
      exact ⟨rfl, hx1.trans (hx2.trans (hx3.trans ((Ext.alloc _ _).trans (hx4.trans hx6))))⟩
    · exfalso; have := HF3.out; have := HS441.out; omega
  · rw [if_neg hn1] at hf3
    have hn2 : 2 ≤ n := by omega
    have ha2 := f6 hn2
    have hap : 0 < a := by omega
    clear f6
    by_cases h7 : 7 ≤ n
    · rw [if_pos h7] at hf3
      have HF3 := Lib.hid hf3
      clear hf3
      go_enter Try.func5, Try.ntmps5
      go_wp2_with fail
      refine (size_any _ _).mono ?_
      rw [HC.out]
      rintro e w' ⟨rfl, rfl⟩
      simp only [two]
      go_wp2_with fail
      refine (aligns_any _ _).mono ?_
      rw [HA.out]
      intro e w1 hret
      obtain ⟨b1, c1, rfl, hr1, _, _, _, hx1⟩ := hret.ints
      clear hret hr1
      rw [HF1.out]
      go_wp2_with fail
      refine (codewords_any _ _).mono ?_
      rw [HW.out]
      rintro e w2 ⟨rfl, hx2⟩
      simp only [three]
      go_wp2_with fail
      · skip
        refine (structure_any _ _ _).mono ?_
        rw [HST.out]
        rintro e w3 ⟨rfl, hx3⟩
        simp only [blkV]
        go_wp2_with fail
        refine (capacity_any _ _ _).mono ?_
        rw [HCP.out]
        rintro e w4 ⟨rfl, hx4⟩
        simp only [two]
        have hb := hx4.new
        have z0 := cell_of_row _ _ 0 _ _ _ hb
        have z1 := cell_of_row _ _ 1 _ _ _ hb
        have z2 := cell_of_row _ _ 2 _ _ _ hb
        have z3 := cell_of_row _ _ 3 _ _ _ hb
        simp only [List.getElem?_toArray, List.getElem?_cons_zero, List.getElem?_cons_succ] at z0 z1 z2 z3
        clear hb
        go_wp2_with fail
        refine (alive_any _).mono ?_
        rintro e w6 ⟨rfl, hx6⟩
        go_wp2_with fail
        go_ret
        exact ⟨rfl, hx1.trans (hx2.trans (hx3.trans ((Ext.alloc _ _).trans (hx4.trans hx6))))⟩
      · exfalso; have := HF3.out; omega
    · rw [if_neg h7] at hf3
      have HF3 := Lib.hid hf3
      clear hf3
      go_enter Try.func5, Try.ntmps5
      go_wp2_with fail
      refine (size_any _ _).mono ?_
      rw [HC.out]
      rintro e w' ⟨rfl, rfl⟩
      simp only [two]
      go_wp2_with fail
      refine (aligns_any _ _).mono ?_
      rw [HA.out]
      intro e w1 hret
      obtain ⟨b1, c1, rfl, hr1, _, _, _, hx1⟩ := hret.ints
      clear hret hr1
      rw [HF1.out]
      go_wp2_with fail
      refine (codewords_any _ _).mono ?_
      rw [HW.out]
      rintro e w2 ⟨rfl, hx2⟩
      simp only [three]
      go_wp2_with fail
      · skip
        refine (structure_any _ _ _).mono ?_
        rw [HST.out]
        rintro e w3 ⟨rfl, hx3⟩
        simp only [blkV]
        go_wp2_with fail
        refine (capacity_any _ _ _).mono ?_
        rw [HCP.out]
        rintro e w4 ⟨rfl, hx4⟩
        simp only [two]
        have hb := hx4.new
        have z0 := cell_of_row _ _ 0 _ _ _ hb
        have z1 := cell_of_row _ _ 1 _ _ _ hb
        have z2 := cell_of_row _ _ 2 _ _ _ hb
        have z3 := cell_of_row _ _ 3 _ _ _ hb
        simp only [List.getElem?_toArray, List.getElem?_cons_zero, List.getElem?_cons_succ] at z0 z1 z2 z3
        clear hb
        go_wp2_with fail
        refine (alive_any _).mono ?_
        rintro e w6 ⟨rfl, hx6⟩
        go_wp2_with fail
        go_ret
        exact ⟨rfl, hx1.trans (hx2.trans (hx3.trans ((Ext.alloc _ _).trans (hx4.trans hx6))))⟩
      · exfalso; have := HF3.out; omega

theorem qrversionSums_walk (v l : Int) (w : World) (_ : -9223372036854775808 ≤ v ∧ v ≤ 9223372036854775807) (_ : -9223372036854775808 ≤ l ∧ l ≤ 9223372036854775807) :
    Calls Try.prog 5 #[.int .i64 v, .int .i64 l] w fun e w' => e = .returned (.bool true) ∧ Ext w w' := by
  by_cases hv : inV v
  · obtain ⟨n, rfl, h1, h2⟩ := inV_nat hv
    rcases level_cases l with hl | ⟨k, rfl, hk1, hk4⟩
    · exact sums_badl n l w h1 h2 hl
    · exact sums_good n k w h1 h2 hk1 hk4
  · exact sums_bad v l w (szRes_2 hv) (alRes_2 hv) (cwRes_2 hv)

set_option maxRecDepth 100000 in
theorem qrversionSums_lifted (os : Os) (started : os.Started) (H : Type) (enc : TypeId × Value → H) :
    ReturnsInHanded {} Try.checked os 5 .any (Rows.qrversionSumsSpec.pre6 enc Try.prog Try.f5 Rows.qrversionSumsRow.domain false) (Rows.qrversionSumsSpec.post enc Try.prog Try.f5 false true false false) := by
  refine returnsInHanded_of_change (C := Try.checked) Try.own started (by kernel_rfl) Try.func5
    (ChangeSpec.witness6 (enc := enc) (C := Try.checked) false ⟨#[], #[.int .i64 0, .int .i64 0], []⟩ 8 (by kernel_rfl) (by kernel_rfl) (by kernel_rfl) (by kernel_rfl)) ?_
  intro W base args ds gs before hval0 hW _ _
  have hval : ∀ (j : Nat) t v, Try.f5.params[j]? = some t → args[j]? = some v → Value.okWide Try.prog W .any base t v := hval0
  have hW' := hW
  obtain ⟨p, q, hA0, hV, rfl, _, _⟩ := hW
  have hA : DataW.TrodAll enc Try.prog W 0 (fun _ => true) true Try.f5.params.toList args.toList ds p := hA0
  rw [Try.params5] at hA hval
  obtain ⟨rfl, rfl⟩ := trodVars_none hV
  clear hA0 hval0
  simp only [List.append_nil] at hW'
  have hlt : ∀ x ∈ p, x.block < W.heap.size := fun x hx => by simpa using hW'.lt x hx
  have hstay : ∀ W', Below W.heap.size W W' → _ := fun W' hb => args_stay (enc := enc) Try.laidOut hb _ _ _ _ (by kernel_rfl) hA hlt
  obtain ⟨v0, v1, d0, d1, p0, p1, rfl, rfl, rfl, h0, h1⟩ := trodAll_two hA
  obtain ⟨x0, rfl, rfl, rfl, wx0⟩ := open_int Try.underlying3 (hval 0 3 v0 rfl rfl) h0
  obtain ⟨x1, rfl, rfl, rfl, wx1⟩ := open_int Try.underlying33 (hval 1 33 v1 rfl rfl) h1
  refine (qrversionSums_walk x0 x1 W (wf_i64_bd wx0) (wf_i64_bd wx1)).mono fun e W' ⟨he, hb⟩ => ?_
  subst he
  exact ⟨_, rfl, _, _, _, [], _, [], hW', trodAll_mk1 (shut_bool Try.underlying4 _), hstay W' hb, rfl, hb.frame _, fun h => by cases h⟩

theorem qrversionSums_holds : Rows.QrversionSumsSaid :=
  OpenClaim.holds_of_wide 5 Try.f5 rfl rfl rfl rfl rfl rfl rfl ⟨rfl, rfl, rfl, rfl, rfl⟩ rfl rfl rfl rfl rfl (by kernel_rfl) Try.func5 (by kernel_rfl)
    (of_decide_eq_true (by kernel_rfl)) (by unfold Func.isWrapper; first | (rw [if_pos (by decide +kernel)]; kernel_rfl) | (rw [if_neg (by decide +kernel)]; exact ⟨rfl, rfl⟩))
    (fun os started H enc _ => qrversionSums_lifted os started H enc)


end Go.Proofs.Ytnmmpgjcikhnhaa
