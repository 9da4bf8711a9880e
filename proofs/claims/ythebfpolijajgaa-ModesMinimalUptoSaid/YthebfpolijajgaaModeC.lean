/-
  Contracts of the reference's place, of modes.packed and (packing).size.
  Conditions: the mode is one of the three; numbers are small.
-/
import Derived.Test.YthebfpolijajgaaModeB
import Derived.Test.YthebfpolijajgaaTabR
import Derived.Deep.QuietTactic
import Derived.BigQuiet
namespace Go.Proofs.Ythebfpolijajgaa
open Go.RowKit Go.Bs Go.Mode

def packA (m : Int) : Array Value := if m = 1 then #[.int .i64 3, .int .i64 10, .int .i64 10, .int .i64 0, .int .i64 4, .int .i64 7] else if m = 2 then #[.int .i64 2, .int .i64 45, .int .i64 11, .int .i64 0, .int .i64 6, .int .i64 0] else #[.int .i64 1, .int .i64 256, .int .i64 8, .int .i64 0, .int .i64 0, .int .i64 0]

set_option maxRecDepth 20000 in
set_option maxHeartbeats 800000 in
theorem packed_any (m : Int) (w : World) (hm : okMode m = true) : Calls Try.prog 48 #[.int .i64 m] w fun e w' => e = .returned (.agg (packA m)) ∧ Ext w w' := by
  have HG := Lib.hid (heap_alloc_new w (.cells #[.int .i64 0, .int .i64 0, .int .i64 0, .int .i64 0, .int .i64 0, .int .i64 0] 76))
  rcases okMode_cases m with rfl | rfl | rfl | ⟨h, _⟩
  case inr.inr.inr => rw [hm] at h; cases h
  all_goals
    clear hm
    go_enter Try.func48, Try.ntmps48
    go_wp2_with ((with_reducible show wpList _ _ _ (⟨none, .store 76 _ _, _, _, _, _⟩ :: _) _ _); refine wpList_storeOwn rfl 76 _ _ rfl w.heap.size _ rfl rfl 76 _ HG.out (by kernel_rfl) (by kernel_rfl) (by kernel_rfl) w (Ext.alloc _ _) (Nat.le_refl _) ?_; intro w2 HX2 HG2)
    exact bodyPost_ret (results_cell_row rfl _ w2 w.heap.size 76 _ (0, 0) _ rfl HG2.out Try.underlying76 rfl (by kernel_rfl)) rfl ⟨rfl, HX2⟩

set_option maxRecDepth 20000 in
set_option maxHeartbeats 800000 in
theorem psize_any (m : Int) (n : Nat) (w : World) (hm : okMode m = true) (hn : n ≤ 1099511627776) : Calls Try.prog 49 #[.agg (packA m), .int .i64 n] w fun e w' => e = .returned (.int .i64 (dsize m n)) ∧ Ext w w' := by
  rcases okMode_cases m with rfl | rfl | rfl | ⟨h, _⟩
  case inr.inr.inr => rw [hm] at h; cases h
  case inl =>
    clear hm
    rw [show packA 1 = #[.int .i64 3, .int .i64 10, .int .i64 10, .int .i64 0, .int .i64 4, .int .i64 7] from rfl]
    have h3 : n % 3 = 0 ∨ n % 3 = 1 ∨ n % 3 = 2 := by omega
    rcases h3 with h3 | h3 | h3
    · have HD : Hid ((dsize 1 n : Int) = (10 * ((n : Int) / 3))) := by show _ = _; unfold dsize; simp [h3]; try omega
      have hr : (n : Int) % 3 = 0 := by omega
      clear h3
      go_enter Try.func49, Try.ntmps49
      go_wp2_with fail
      go_quiet (fail)
      go_wp2_with fail
      go_ret
      exact ⟨ret_int (by rw [HD.out]), (Ext.alloc _ _).drewN _⟩
    · have HD : Hid ((dsize 1 n : Int) = (10 * ((n : Int) / 3) + 4)) := by show _ = _; unfold dsize; simp [h3]; try omega
      have hr : (n : Int) % 3 = 1 := by omega
      clear h3
      go_enter Try.func49, Try.ntmps49
      go_wp2_with fail
      go_quiet (fail)
      go_wp2_with fail
      go_ret
      exact ⟨ret_int (by rw [HD.out]), (Ext.alloc _ _).drewN _⟩
    · have HD : Hid ((dsize 1 n : Int) = (10 * ((n : Int) / 3) + 7)) := by show _ = _; unfold dsize; simp [h3]; try omega
      have hr : (n : Int) % 3 = 2 := by omega
      clear h3
      go_enter Try.func49, Try.ntmps49
      go_wp2_with fail
      go_quiet (fail)
      go_wp2_with fail
      go_ret
      exact ⟨ret_int (by rw [HD.out]), (Ext.alloc _ _).drewN _⟩
  case inr.inl =>
    clear hm
    rw [show packA 2 = #[.int .i64 2, .int .i64 45, .int .i64 11, .int .i64 0, .int .i64 6, .int .i64 0] from rfl]
    have h3 : n % 2 = 0 ∨ n % 2 = 1 := by omega
    rcases h3 with h3 | h3
    · have HD : Hid ((dsize 2 n : Int) = (11 * ((n : Int) / 2))) := by show _ = _; unfold dsize; simp [h3]; try omega
      have hr : (n : Int) % 2 = 0 := by omega
      clear h3
      go_enter Try.func49, Try.ntmps49
      go_wp2_with fail
      go_quiet (fail)
      go_wp2_with fail
      go_ret
      exact ⟨ret_int (by rw [HD.out]), (Ext.alloc _ _).drewN _⟩
    · have HD : Hid ((dsize 2 n : Int) = (11 * ((n : Int) / 2) + 6)) := by show _ = _; unfold dsize; simp [h3]; try omega
      have hr : (n : Int) % 2 = 1 := by omega
      clear h3
      go_enter Try.func49, Try.ntmps49
      go_wp2_with fail
      go_quiet (fail)
      go_wp2_with fail
      go_ret
      exact ⟨ret_int (by rw [HD.out]), (Ext.alloc _ _).drewN _⟩
  case inr.inr.inl =>
    clear hm
    rw [show packA 4 = #[.int .i64 1, .int .i64 256, .int .i64 8, .int .i64 0, .int .i64 0, .int .i64 0] from rfl]
    have HD : Hid ((dsize 4 n : Int) = 8 * (n : Int)) := by show _ = _; simp [dsize]
    go_enter Try.func49, Try.ntmps49
    go_wp2_with fail
    go_quiet (fail)
    go_wp2_with fail
    go_ret
    exact ⟨ret_int (by rw [HD.out]), (Ext.alloc _ _).drewN _⟩

end Go.Proofs.Ythebfpolijajgaa
