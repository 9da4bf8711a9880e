/-
  Contracts of the reference's Codewords, of qrversion's shares, Structure and Capacity.
  Conditions: none for the last of each.
-/
import Derived.Test.YtbfcgggcdmafoaaVerD
namespace Go.Proofs.Ytbfcgggcdmafoaa
open Go.RowKit Go.Bs Go.Qrv

theorem rem_all : ∀ i : Fin 40, remN (i.val + 1) = if 2 ≤ i.val + 1 ∧ i.val + 1 ≤ 6 then 7 else if (14 ≤ i.val + 1 ∧ i.val + 1 ≤ 20) ∨ (28 ≤ i.val + 1 ∧ i.val + 1 ≤ 34) then 3 else if 21 ≤ i.val + 1 ∧ i.val + 1 ≤ 27 then 4 else 0 := by decide +kernel
theorem rem_at (n : Nat) (h1 : 1 ≤ n) (h2 : n ≤ 40) : remN n = if 2 ≤ n ∧ n ≤ 6 then 7 else if (14 ≤ n ∧ n ≤ 20) ∨ (28 ≤ n ∧ n ≤ 34) then 3 else if 21 ≤ n ∧ n ≤ 27 then 4 else 0 := by
  have := rem_all ⟨n - 1, by omega⟩
  simp only [show n - 1 + 1 = n by omega] at this
  exact this

theorem shares_bd : ∀ i : Fin 40, ∀ j : Fin 4, 7 ≤ chk (j.val + 1) (i.val + 1) ∧ chk (j.val + 1) (i.val + 1) ≤ 30 ∧ 1 ≤ blk (j.val + 1) (i.val + 1) ∧ blk (j.val + 1) (i.val + 1) ≤ 81 ∧
    chk (j.val + 1) (i.val + 1) * blk (j.val + 1) (i.val + 1) + blk (j.val + 1) (i.val + 1) ≤ wordsN (i.val + 1) ∧ wordsN (i.val + 1) ≤ 3706 := by decide +kernel
theorem shares_at (n l : Nat) (h1 : 1 ≤ n) (h2 : n ≤ 40) (h3 : 1 ≤ l) (h4 : l ≤ 4) : 7 ≤ chk l n ∧ chk l n ≤ 30 ∧ 1 ≤ blk l n ∧ blk l n ≤ 81 ∧ chk l n * blk l n + blk l n ≤ wordsN n ∧ wordsN n ≤ 3706 := by
  have := shares_bd ⟨n - 1, by omega⟩ ⟨l - 1, by omega⟩
  simp only [show n - 1 + 1 = n by omega, show l - 1 + 1 = l by omega] at this
  exact this

def shRes (v l : Int) : Int × Int × Int × Int := if inV v then if l < 1 ∨ 4 < l then (0, 0, 0, 15) else (dataN v.toNat l.toNat, chk l.toNat v.toNat, blk l.toNat v.toNat, 0) else (0, 0, 0, 14)
theorem shRes_1 {v l : Int} (h : ¬ inV v) : shRes v l = (0, 0, 0, 14) := by unfold shRes; rw [if_neg h]
theorem shRes_2 {v l : Int} (h : inV v) (h2 : l < 1 ∨ 4 < l) : shRes v l = (0, 0, 0, 15) := by unfold shRes; rw [if_pos h, if_pos h2]
theorem shRes_3 {v l : Nat} (h : inV v) (h2 : 1 ≤ l ∧ l ≤ 4) : shRes v l = ((dataN v l : Int), (chk l v : Int), (blk l v : Int), 0) := by unfold shRes; rw [if_pos h, if_neg (by omega)]; rfl

set_option maxRecDepth 20000 in
set_option maxHeartbeats 800000 in
theorem shares_any (v l : Int) (w : World) : Calls Try.prog 39 #[.int .i64 v, .int .i64 l] w fun e w' => e = .returned (four (shRes v l)) ∧ Ext w w' := by
  by_cases hv : inV v
  · by_cases hl : l < 1 ∨ 4 < l
    · rw [shRes_2 hv hl]
      have HV := Lib.hid hv
      clear hv
      rcases Int.lt_or_le l 1 with h0 | h0
      all_goals
        first | (have h7 : 4 < l := by omega) | skip
        clear hl
        go_enter Try.func39, Try.ntmps39
        go_wp2_with fail
        refine (exists_yes _ _ HV.out).mono ?_
        rintro e w' ⟨rfl, rfl⟩
        go_wp2_with fail
        refine bodyPost_ret (results_tmp4 rfl _ _ _) rfl ?_
        exact ⟨rfl, Ext.refl _⟩
    · obtain ⟨n, rfl, h1, h2⟩ := inV_nat hv
      obtain ⟨k, rfl⟩ : ∃ k : Nat, l = k := ⟨l.toNat, by omega⟩
      have hk1 : 1 ≤ k := by omega
      have hk4 : k ≤ 4 := by omega
      rw [shRes_3 hv ⟨hk1, hk4⟩]
      have HV := Lib.hid hv
      clear hv hl
      have hsh := shares_at n k h1 h2 hk1 hk4
      have hw : wrap64 ((chk k n : Int) * (blk k n : Int)) = ((chk k n * blk k n : Nat) : Int) := by
        rw [Int.natCast_mul]; exact IntWalk.wrap64_in _ ⟨by rw [← Int.natCast_mul]; omega, by rw [← Int.natCast_mul]; omega⟩
      have hd : (wordsN n : Int) - ((chk k n * blk k n : Nat) : Int) = (dataN n k : Int) := by unfold dataN; omega
      have HW := Lib.hid hw
      have HD := Lib.hid hd
      have hd2 : wrap64 (dataN n k : Int) = (dataN n k : Int) := by rw [← hd]; exact IntWalk.wrap64_in _ ⟨by omega, by omega⟩
      have HD2 := Lib.hid hd2
      clear hw hd hd2 hsh
      obtain rfl | rfl | rfl | rfl : k = 1 ∨ k = 2 ∨ k = 3 ∨ k = 4 := by omega
      all_goals
        clear hk1 hk4
        go_enter Try.func39, Try.ntmps39
        go_wp2_with fail
        refine (exists_yes _ _ HV.out).mono ?_
        rintro e w' ⟨rfl, rfl⟩
        go_wp2_with fail
        refine (row_any n _ h1 h2).mono ?_
        rintro e w1 ⟨rfl, HE⟩
        rw [show (ints (rowRow n)).toArray = ten n from rfl]
        unfold ten
        go_wp2_with fail
        go_quiet (fail)
        go_wp2_with fail
        rw [HW.out, HD.out]
        refine bodyPost_ret (results_tmp4 rfl _ _ _) rfl ?_
        exact ⟨by rw [HD2.out]; rfl, (HE.trans (Ext.alloc _ _)).drewN _⟩
  · rw [shRes_1 hv]
    go_enter Try.func39, Try.ntmps39
    go_wp2_with fail
    refine (exists_no _ _ hv).mono ?_
    rintro e w' ⟨rfl, rfl⟩
    go_wp2_with fail
    refine bodyPost_ret (results_tmp4 rfl _ _ _) rfl ?_
    exact ⟨rfl, Ext.refl _⟩

end Go.Proofs.Ytbfcgggcdmafoaa
