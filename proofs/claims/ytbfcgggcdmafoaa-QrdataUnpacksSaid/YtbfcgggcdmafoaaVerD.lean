/-
  Contracts of the reference's Aligns, tables and Codewords.
  Conditions: none for the last of each.
-/
import Derived.Test.YtbfcgggcdmafoaaVerC
namespace Go.Proofs.Ytbfcgggcdmafoaa
open Go.RowKit Go.Bs Go.Qrv

def alTo (v k : Nat) : List Int := 6 :: (List.range k).map fun i => ((4 * v + 10 - stepN v * (v / 7 - i) : Nat) : Int)
theorem alTo_succ (v k : Nat) : ints (alTo v (k + 1)) = ints (alTo v k) ++ [.int .i64 ((4 * v + 10 - stepN v * (v / 7 - k) : Nat) : Int)] := by
  simp [alTo, List.range_succ, ints]
theorem alTo_all (v : Nat) (h : 2 ≤ v) : alTo v (v / 7 + 1) = al v := by unfold al; rw [if_neg (by omega)]; rfl
theorem step_int : ∀ i : Fin 40, (8 * ((i.val + 1 : Nat) : Int) + 3 * (((i.val + 1 : Nat) : Int) / 7 + 2) + 5) / (4 * (((i.val + 1 : Nat) : Int) / 7 + 2) - 4) * 2 = (stepN (i.val + 1) : Int) := by decide +kernel
theorem step_bd : ∀ i : Fin 40, stepN (i.val + 1) ≤ 28 ∧ stepN (i.val + 1) * ((i.val + 1) / 7) ≤ 4 * (i.val + 1) + 10 := by decide +kernel

def wordsL : List Int := (List.range 40).map fun i => (wordsN (i + 1) : Int)
def blocksL (l : Nat) : List Int := (List.range 40).map fun i => (blk l (i + 1) : Int)
def checksL (l : Nat) : List Int := (List.range 40).map fun i => (chk l (i + 1) : Int)
theorem wordsL_at (n : Nat) (h1 : 1 ≤ n) (h2 : n ≤ 40) : (ints wordsL)[n - 1]? = some (.int .i64 (wordsN n)) := by
  simp [wordsL, ints, show n - 1 < 40 by omega, show n - 1 + 1 = n by omega]
theorem blocksL_at (l n : Nat) (h1 : 1 ≤ n) (h2 : n ≤ 40) : (ints (blocksL l))[n - 1]? = some (.int .i64 (blk l n)) := by
  simp [blocksL, ints, show n - 1 < 40 by omega, show n - 1 + 1 = n by omega]
theorem checksL_at (l n : Nat) (h1 : 1 ≤ n) (h2 : n ≤ 40) : (ints (checksL l))[n - 1]? = some (.int .i64 (chk l n)) := by
  simp [checksL, ints, show n - 1 < 40 by omega, show n - 1 + 1 = n by omega]

theorem lit_ret (w : World) (L : List Int) (cs : Array Value) (t : TypeId) (n : Nat) (h : cs = (ints L).toArray) (hn : L.length = n) (hb : n ≤ 9223372036854775807) :
    RetRow w (ints L) (.returned (.slice (some ⟨w.heap.size, 0, none⟩) n n)) (w.alloc (.cells cs t)) := by
  subst h hn
  refine ⟨_, L.length, ?_, Row.lit w (ints L) t, by simp [ints], hb, fun h => (by cases h), Ext.alloc _ _⟩
  rw [length_ints]

set_option maxRecDepth 20000 in
set_option maxHeartbeats 800000 in
theorem vwords_any (w : World) : Calls Try.prog 78 #[] w (RetRow w (ints wordsL)) := by
  go_enter Try.func78, Try.ntmps78
  go_wp2_with fail
  go_ret
  exact lit_ret w wordsL _ _ 40 (by kernel_rfl) rfl (by decide)

set_option maxRecDepth 20000 in
set_option maxHeartbeats 800000 in
theorem blocks_any (l : Nat) (w : World) (h1 : 1 ≤ l) (h4 : l ≤ 4) : Calls Try.prog 76 #[.int .i64 l] w (RetRow w (ints (blocksL l))) := by
  obtain rfl | rfl | rfl | rfl : l = 1 ∨ l = 2 ∨ l = 3 ∨ l = 4 := by omega
  · go_enter Try.func76, Try.ntmps76
    go_wp2_with fail
    go_ret
    exact lit_ret w (blocksL 1) _ _ 40 (by kernel_rfl) rfl (by decide)
  · go_enter Try.func76, Try.ntmps76
    go_wp2_with fail
    go_ret
    exact lit_ret w (blocksL 2) _ _ 40 (by kernel_rfl) rfl (by decide)
  · go_enter Try.func76, Try.ntmps76
    go_wp2_with fail
    go_ret
    exact lit_ret w (blocksL 3) _ _ 40 (by kernel_rfl) rfl (by decide)
  · go_enter Try.func76, Try.ntmps76
    go_wp2_with fail
    go_ret
    exact lit_ret w (blocksL 4) _ _ 40 (by kernel_rfl) rfl (by decide)
set_option maxRecDepth 20000 in
set_option maxHeartbeats 800000 in
theorem checks_any (l : Nat) (w : World) (h1 : 1 ≤ l) (h4 : l ≤ 4) : Calls Try.prog 77 #[.int .i64 l] w (RetRow w (ints (checksL l))) := by
  obtain rfl | rfl | rfl | rfl : l = 1 ∨ l = 2 ∨ l = 3 ∨ l = 4 := by omega
  · go_enter Try.func77, Try.ntmps77
    go_wp2_with fail
    go_ret
    exact lit_ret w (checksL 1) _ _ 40 (by kernel_rfl) rfl (by decide)
  · go_enter Try.func77, Try.ntmps77
    go_wp2_with fail
    go_ret
    exact lit_ret w (checksL 2) _ _ 40 (by kernel_rfl) rfl (by decide)
  · go_enter Try.func77, Try.ntmps77
    go_wp2_with fail
    go_ret
    exact lit_ret w (checksL 3) _ _ 40 (by kernel_rfl) rfl (by decide)
  · go_enter Try.func77, Try.ntmps77
    go_wp2_with fail
    go_ret
    exact lit_ret w (checksL 4) _ _ 40 (by kernel_rfl) rfl (by decide)

end Go.Proofs.Ytbfcgggcdmafoaa
