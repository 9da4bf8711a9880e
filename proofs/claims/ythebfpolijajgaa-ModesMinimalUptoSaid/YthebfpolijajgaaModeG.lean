/-
  The contract of modes.put: bits are appended to a row of the call's own.
  Conditions: few bits.
-/
import Derived.Test.YthebfpolijajgaaModeF
import Derived.Test.YthebfpolijajgaaBitsB
import Derived.Test.YthebfpolijajgaaKeep
namespace Go.Proofs.Ythebfpolijajgaa
open Go.RowKit Go.Bs Go.Mode

/-- A row of the call's own has grown by bits. -/
def PutPost (B : Nat) (w : World) (s : Value) (m : Nat) (xs : List Bool) (e : Ending) (w' : World) : Prop :=
  ∃ s', e = .returned s' ∧ w'.ownsRow B 4 1 s' m (bools xs) ∧ Keep w s w' s'

set_option maxRecDepth 20000 in
set_option maxHeartbeats 800000 in
theorem put_any (B : Nat) (s : Value) (m : Nat) (xs : List Bool) (v : Int) (n : Nat) (w : World) (hn : n ≤ 62) (hm : m ≤ 4194304) (hown : w.ownsRow B 4 1 s m (bools xs)) (hB : B ≤ w.heap.size) :
    Calls Try.prog 65 #[s, .int .i64 v, .int .i64 n] w (PutPost B w s (m + n) (xs ++ lowBits v n)) := by
  have HA : Hid (appRes [] v n = (lowBits v n, 0)) := by show _ = _; rw [appRes_3 (by omega) (by simp; omega)]; simp
  go_enter Try.func65, Try.ntmps65
  go_wp2_with fail
  refine (append_any none 0 0 [] v n _ rfl (by decide) (Row.nil _ _)).mono ?_
  rw [HA.out]
  intro e w1 hret
  obtain ⟨b1, c1, rfl, hr1, hc1, hm1, hn1, hx1⟩ := hret.bools
  clear hret
  rw [length_lowBits] at hc1 ⊢
  have hown1 := own_extN hown hx1
  have hB1 : B ≤ w1.heap.size := Nat.le_trans hB hx1.size
  have HK1 := Lib.hid (Keep.ofExt hx1 s)
  clear hown
  go_wp2_with (at_builtin; refine wpList_app rfl _ _ 40 rfl B 4 (.bool false) 1 1 Try.infoBool rfl (by decide) Try.underlying40 _ rfl m _ hown1 _ n c1 rfl (bools (lowBits v n)) hr1 (by rw [length_bools, length_lowBits]; omega) hn1 (bools_oneCell _) (by omega) (by omega) hB1 ?_; intro s2 w2 hown2 hk2)
  rw [← bools_append] at hown2
  go_ret
  exact ⟨s2, rfl, hown2, HK1.out.trans hk2⟩

end Go.Proofs.Ythebfpolijajgaa
