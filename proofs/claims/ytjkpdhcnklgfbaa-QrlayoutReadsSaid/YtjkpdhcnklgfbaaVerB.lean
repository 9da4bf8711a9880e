/-
  Contracts of qrversion's functions without payloads, and of their references.
  Conditions: none for the last of each.
-/
import Derived.Test.YtjkpdhcnklgfbaaVerA
import Derived.Test.YtjkpdhcnklgfbaaRet
import Derived.Test.YtjkpdhcnklgfbaaInts
namespace Go.Proofs.Ytjkpdhcnklgfbaa
open Go.RowKit Go.Bs Go.Qrv

def inV (v : Int) : Prop := 1 ≤ v ∧ v ≤ 40
instance (v : Int) : Decidable (inV v) := by unfold inV; infer_instance
theorem not_inV {v : Int} (h : ¬ inV v) : v < 1 ∨ 1 ≤ v ∧ 40 < v := by unfold inV at h; omega


set_option maxHeartbeats 400000 in
theorem exists_yes (v : Int) (w : World) (h : inV v) : Calls Try.prog 82 #[.int .i64 v] w fun e w' => e = .returned (.bool true) ∧ w = w' := by
  obtain ⟨h1, h2⟩ := h
  go_enter Try.func82, Try.ntmps82
  go_wp2_with fail
  go_ret
  exact ⟨rfl, rfl⟩
set_option maxHeartbeats 400000 in
theorem exists_no (v : Int) (w : World) (hv : ¬ inV v) : Calls Try.prog 82 #[.int .i64 v] w fun e w' => e = .returned (.bool false) ∧ w = w' := by
  rcases not_inV hv with h1 | ⟨h1, h2⟩
  all_goals
    first | (have hd : decide (v ≤ 40) = false := by simp; omega) | skip
    clear hv
    go_enter Try.func82, Try.ntmps82
    go_wp2_with fail
    (go_ret; exact ⟨rfl, rfl⟩)

def szRes (v : Int) : Int × Int := if inV v then (17 + 4 * v, 0) else (0, 14)
theorem szRes_1 {v : Int} (h : inV v) : szRes v = (17 + 4 * v, 0) := by unfold szRes; rw [if_pos h]
theorem szRes_2 {v : Int} (h : ¬ inV v) : szRes v = (0, 14) := by unfold szRes; rw [if_neg h]
set_option maxHeartbeats 400000 in
theorem size_any (v : Int) (w : World) : Calls Try.prog 67 #[.int .i64 v] w fun e w' => e = .returned (two (szRes v)) ∧ w = w' := by
  by_cases hv : inV v
  · rw [szRes_1 hv]
    have HV := Lib.hid hv
    obtain ⟨h1, h2⟩ := hv
    go_enter Try.func67, Try.ntmps67
    go_wp2_with fail
    refine (exists_yes _ _ HV.out).mono ?_
    rintro e w' ⟨rfl, rfl⟩
    go_wp2_with fail
    go_ret2
    exact ⟨rfl, rfl⟩
  · rw [szRes_2 hv]
    go_enter Try.func67, Try.ntmps67
    go_wp2_with fail
    refine (exists_no _ _ hv).mono ?_
    rintro e w' ⟨rfl, rfl⟩
    go_wp2_with fail
    go_ret2
    exact ⟨rfl, rfl⟩
set_option maxHeartbeats 400000 in
theorem rsize_any (v : Int) (w : World) : Calls Try.prog 38 #[.int .i64 v] w fun e w' => e = .returned (two (szRes v)) ∧ w = w' := by
  by_cases hv : inV v
  · rw [szRes_1 hv]
    obtain ⟨h1, h2⟩ := hv
    go_enter Try.func38, Try.ntmps38
    go_wp2_with fail
    go_ret2
    exact ⟨rfl, rfl⟩
  · rw [szRes_2 hv]
    rcases not_inV hv with h1 | ⟨h1, h2⟩
    all_goals
      first | (have hd : decide (v ≤ 40) = false := by simp; omega) | skip
      clear hv
      go_enter Try.func38, Try.ntmps38
      go_wp2_with fail
      (go_ret2; exact ⟨rfl, rfl⟩)

def cwRes (v : Int) : Int × Int × Int := if inV v then (wordsN v.toNat, remN v.toNat, 0) else (0, 0, 14)
theorem cwRes_1 {v : Nat} (h : inV v) : cwRes v = ((wordsN v : Int), (remN v : Int), 0) := by unfold cwRes; rw [if_pos h]; rfl
theorem cwRes_2 {v : Int} (h : ¬ inV v) : cwRes v = (0, 0, 14) := by unfold cwRes; rw [if_neg h]

theorem inV_nat {v : Int} (h : inV v) : ∃ n : Nat, v = n ∧ 1 ≤ n ∧ n ≤ 40 := ⟨v.toNat, by obtain ⟨h1, h2⟩ := h; omega, by obtain ⟨h1, h2⟩ := h; omega, by obtain ⟨h1, h2⟩ := h; omega⟩

/-- The row in a block of its own: its cells. -/
def ten (n : Nat) : Array Value := #[.int .i64 (wordsN n), .int .i64 (remN n), .int .i64 (chk 1 n), .int .i64 (blk 1 n), .int .i64 (chk 2 n), .int .i64 (blk 2 n), .int .i64 (chk 3 n), .int .i64 (blk 3 n), .int .i64 (chk 4 n), .int .i64 (blk 4 n)]

set_option maxRecDepth 20000 in
set_option maxHeartbeats 400000 in
theorem codewords_any (v : Int) (w : World) : Calls Try.prog 60 #[.int .i64 v] w fun e w' => e = .returned (three (cwRes v)) ∧ Ext w w' := by
  by_cases hv : inV v
  · obtain ⟨n, rfl, h1, h2⟩ := inV_nat hv
    rw [cwRes_1 hv]
    have HV := Lib.hid hv
    clear hv
    go_enter Try.func60, Try.ntmps60
    go_wp2_with fail
    refine (exists_yes _ _ HV.out).mono ?_
    rintro e w' ⟨rfl, rfl⟩
    go_wp2_with fail
    refine (row_any n _ h1 h2).mono ?_
    rintro e w1 ⟨rfl, HE⟩
    rw [show (ints (rowRow n)).toArray = ten n from rfl]
    unfold ten
    go_wp2_with fail
    go_quiet (fail)
    go_wp2_with fail
    go_ret3
    exact ⟨rfl, (HE.trans (Ext.alloc _ _)).drewN _⟩
  · rw [cwRes_2 hv]
    go_enter Try.func60, Try.ntmps60
    go_wp2_with fail
    refine (exists_no _ _ hv).mono ?_
    rintro e w' ⟨rfl, rfl⟩
    go_wp2_with fail
    go_ret3
    exact ⟨rfl, Ext.refl _⟩

end Go.Proofs.Ytjkpdhcnklgfbaa
