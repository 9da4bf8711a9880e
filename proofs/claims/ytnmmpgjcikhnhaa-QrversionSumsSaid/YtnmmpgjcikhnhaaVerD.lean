/-
  Contracts of the reference's Aligns, tables and Codewords.
  Conditions: none for the last of each.
-/
import Derived.Test.YtnmmpgjcikhnhaaVerC
namespace Go.Proofs.Ytnmmpgjcikhnhaa
open Go.RowKit Go.Bs Go.Qrv

def alTo (v k : Nat) : List Int := 6 :: (List.range k).map fun i => ((4 * v + 10 - stepN v * (v / 7 - i) : Nat) : Int)
theorem alTo_succ (v k : Nat) : ints (alTo v (k + 1)) = ints (alTo v k) ++ [.int .i64 ((4 * v + 10 - stepN v * (v / 7 - k) : Nat) : Int)] := by
  simp [alTo, List.range_succ, ints]
theorem alTo_all (v : Nat) (h : 2 ≤ v) : alTo v (v / 7 + 1) = al v := by unfold al; rw [if_neg (by omega)]; rfl
theorem step_int : ∀ i : Fin 40, (8 * ((i.val + 1 : Nat) : Int) + 3 * (((i.val + 1 : Nat) : Int) / 7 + 2) + 5) / (4 * (((i.val + 1 : Nat) : Int) / 7 + 2) - 4) * 2 = (stepN (i.val + 1) : Int) := by decide +kernel
theorem step_bd : ∀ i : Fin 40, stepN (i.val + 1) ≤ 28 ∧ stepN (i.val + 1) * ((i.val + 1) / 7) ≤ 4 * (i.val + 1) + 10 := by decide +kernel

set_option maxRecDepth 20000 in
set_option maxHeartbeats 800000 in
theorem raligns_any (v : Int) (w : World) : Calls Try.prog 11 #[.int .i64 v] w (RetSl w (ints (alRes v).1, (alRes v).2)) := by
  by_cases hv : inV v
  · obtain ⟨n, rfl, h1, h2⟩ := inV_nat hv
    rw [alRes_1 hv]
    clear hv
    by_cases h11 : n = 1
    · subst h11
      go_enter Try.func11, Try.ntmps11
      go_wp2_with fail
      go_ret2
      exact RetSl.nil _ _ _ (Ext.refl _)
    · have hn2 : 2 ≤ n := by omega
      have hz1 : ((n : Int) == 1) = false := by rw [beq_eq_false_iff_ne]; omega
      have hsb := step_bd ⟨n - 1, by omega⟩
      simp only [show n - 1 + 1 = n by omega] at hsb
      have HA := Lib.hid (alTo_all n hn2)
      have hq : (n : Int) / 7 = ((n / 7 : Nat) : Int) := by omega
      have HQ := Lib.hid hq
      have hs : wrap64 ((8 * (n : Int) + 3 * ((n : Int) / 7 + 2) + 5) / (4 * ((n : Int) / 7 + 2) - 4) * 2) = (stepN n : Int) := by
        have := step_int ⟨n - 1, by omega⟩
        simp only [show n - 1 + 1 = n by omega] at this
        rw [this]
        exact IntWalk.wrap64_in _ ⟨by omega, by omega⟩
      have HS := Lib.hid hs
      obtain ⟨q, hqq⟩ : ∃ q, q = n / 7 := ⟨_, rfl⟩
      have hq5 : q ≤ 5 := by omega
      obtain ⟨S, hSS⟩ : ∃ S, S = stepN n := ⟨_, rfl⟩
      have HQQ := Lib.hid hqq
      have HSS := Lib.hid hSS
      rw [← hSS, ← hqq] at hsb
      rw [← hqq] at HQ HA
      rw [← hSS] at HS
      clear h11 hq hs hqq hSS
      have hd0 : ¬ (4 * ((n : Int) / 7 + 2) - 4 = 0) := by omega
      go_enter Try.func11, Try.ntmps11
      go_wp2_with fail
      rw [HS.out, HQ.out]
      have hown0 : (w.alloc (.cells #[.int .i64 6] 3)).ownsRow w.heap.size 3 1 (.slice (some ⟨w.heap.size, 0, none⟩) 1 1) 1 (ints (alTo n 0)) := ⟨rfl, Or.inr ⟨_, 1, _, rfl, Nat.le_refl _, heap_alloc_new _ _, by omega, by unfold maxLen; omega, rfl, rfl⟩⟩
      have HO := Lib.hid hown0
      clear hown0 hd0
      go_loopw [6, 7] (fun s i wr => ∃ k : Nat, k ≤ q + 1 ∧ i = .int .i64 (k + 1 : Nat) ∧ wr.ownsRow w.heap.size 3 1 s (k + 1) (ints (alTo n k)) ∧ Below w.heap.size w wr) (fun _ i _ => q + 2 - (intOf i).toNat)
      case atStart => exact ⟨0, by omega, rfl, HO.out, Ext.alloc _ _⟩
      case round =>
        obtain ⟨k, hk, rfl, hown, hbel⟩ := hrel
        have hsz := hbel.size
        by_cases hlt : k < q + 1
        · have hqk : ((q : Int) + 2 - 1 - ((k + 1 : Nat) : Int)) = ((q - k : Nat) : Int) := by omega
          have hmul : S * (q - k) ≤ S * q := Nat.mul_le_mul_left _ (by omega)
          have hw : wrap64 ((S : Int) * ((q - k : Nat) : Int)) = ((S * (q - k) : Nat) : Int) := by
            rw [Int.natCast_mul]; exact IntWalk.wrap64_in _ ⟨by rw [← Int.natCast_mul]; omega, by rw [← Int.natCast_mul]; omega⟩
          have HZ := Lib.hid (alTo_succ n k)
          rw [← HSS.out, ← HQQ.out] at HZ
          have HM : Hid (4 * (n : Int) + 10 - ((S * (q - k) : Nat) : Int) = ((4 * n + 10 - S * (q - k) : Nat) : Int)) := by show _ = _; omega
          obtain ⟨M, hM⟩ : ∃ M, M = S * (q - k) := ⟨_, rfl⟩
          rw [← hM] at hw hmul HZ HM
          clear hM
          have hMb : M ≤ 4 * n + 10 := by omega
          go_wp2_with (at_builtin; refine wpList_push rfl _ _ 25 rfl w.heap.size 3 (.int .i64 0) 8 Try.infoInt rfl Try.underlying25 _ rfl (k + 1) _ hown _ rfl rfl (by omega) (by omega) hbel (by omega) ?_; intro s2 w2 hown2 hbel2 _)
          have hval : wrap64 (4 * (n : Int) + 10 - wrap64 ((S : Int) * ((q : Int) + 2 - 1 - ((k : Int) + 1)))) = ((4 * n + 10 - M : Nat) : Int) := by
            rw [show (q : Int) + 2 - 1 - ((k : Int) + 1) = ((q - k : Nat) : Int) by omega, hw, HM.out]
            exact IntWalk.wrap64_in _ ⟨by omega, by omega⟩
          rw [hval, ← HZ.out] at hown2
          clear hown
          go_roundw
          case rel => exact ⟨k + 1, by omega, by go_num, hown2, hbel2⟩
          case measure => simp [intOf]; omega
        · obtain rfl : k = q + 1 := by omega
          rw [HA.out] at hown
          go_wp2_with fail
          go_ret2
          exact RetSl.own hown hbel
  · rw [alRes_2 hv]
    rcases not_inV hv with h1 | ⟨h1, h2⟩
    all_goals
      first | (have hd : decide (v ≤ 40) = false := by simp; omega) | skip
      clear hv
      go_enter Try.func11, Try.ntmps11
      go_wp2_with fail
      (go_ret2; exact RetSl.nil _ _ _ (Ext.refl _))

def wordsL : List Int := (List.range 40).map fun i => (wordsN (i + 1) : Int)
def blocksL (l : Nat) : List Int := (List.range 40).map fun i => (blk l (i + 1) : Int)
def checksL (l : Nat) : List Int := (List.range 40).map fun i => (chk l (i + 1) : Int)
theorem wordsL_at (n : Nat) (h1 : 1 ≤ n) (h2 : n ≤ 40) : (ints wordsL)[n - 1]? = some (.int .i64 (wordsN n)) := by
  simp [wordsL, ints, show n - 1 < 40 by omega, show n - 1 + 1 = n by omega]
theorem blocksL_at (l n : Nat) (h1 : 1 ≤ n) (h2 : n ≤ 40) : (ints (blocksL l))[n - 1]? = some (.int .i64 (blk l n)) := by
  simp [blocksL, ints, show n - 1 < 40 by omega, show n - 1 + 1 = n by omega]
theorem checksL_at (l n : Nat) (h1 : 1 ≤ n) (h2 : n ≤ 40) : (ints (checksL l))[n - 1]? = some (.int .i64 (chk l n)) := by
  simp [checksL, ints, show n - 1 < 40 by omega, show n - 1 + 1 = n by omega]

theorem lit_ret (w : World) (L : List Int) (cs : Array Value) (t : TypeId) (n : Nat) (h : cs = (ints L).toArray) (hn : L.length = n) (hb : n ≤ 9223372036854775807) :
    RetRow w (ints L) (.returned (.slice (some ⟨w.heap.size, 0, none⟩) n n)) (w.alloc (.cells cs t)) := by
  subst h hn
  refine ⟨_, L.length, ?_, Row.lit w (ints L) t, by simp [ints], hb, fun h => (by cases h), Ext.alloc _ _⟩
  rw [length_ints]

set_option maxRecDepth 20000 in
set_option maxHeartbeats 800000 in
theorem words_any (w : World) : Calls Try.prog 23 #[] w (RetRow w (ints wordsL)) := by
  go_enter Try.func23, Try.ntmps23
  go_wp2_with fail
  go_ret
  exact lit_ret w wordsL _ _ 40 (by kernel_rfl) rfl (by decide)

set_option maxRecDepth 20000 in
set_option maxHeartbeats 800000 in
theorem blocks_any (l : Nat) (w : World) (h1 : 1 ≤ l) (h4 : l ≤ 4) : Calls Try.prog 26 #[.int .i64 l] w (RetRow w (ints (blocksL l))) := by
  obtain rfl | rfl | rfl | rfl : l = 1 ∨ l = 2 ∨ l = 3 ∨ l = 4 := by omega
  · go_enter Try.func26, Try.ntmps26
    go_wp2_with fail
    go_ret
    exact lit_ret w (blocksL 1) _ _ 40 (by kernel_rfl) rfl (by decide)
  · go_enter Try.func26, Try.ntmps26
    go_wp2_with fail
    go_ret
    exact lit_ret w (blocksL 2) _ _ 40 (by kernel_rfl) rfl (by decide)
  · go_enter Try.func26, Try.ntmps26
    go_wp2_with fail
    go_ret
    exact lit_ret w (blocksL 3) _ _ 40 (by kernel_rfl) rfl (by decide)
  · go_enter Try.func26, Try.ntmps26
    go_wp2_with fail
    go_ret
    exact lit_ret w (blocksL 4) _ _ 40 (by kernel_rfl) rfl (by decide)
set_option maxRecDepth 20000 in
set_option maxHeartbeats 800000 in
theorem checks_any (l : Nat) (w : World) (h1 : 1 ≤ l) (h4 : l ≤ 4) : Calls Try.prog 27 #[.int .i64 l] w (RetRow w (ints (checksL l))) := by
  obtain rfl | rfl | rfl | rfl : l = 1 ∨ l = 2 ∨ l = 3 ∨ l = 4 := by omega
  · go_enter Try.func27, Try.ntmps27
    go_wp2_with fail
    go_ret
    exact lit_ret w (checksL 1) _ _ 40 (by kernel_rfl) rfl (by decide)
  · go_enter Try.func27, Try.ntmps27
    go_wp2_with fail
    go_ret
    exact lit_ret w (checksL 2) _ _ 40 (by kernel_rfl) rfl (by decide)
  · go_enter Try.func27, Try.ntmps27
    go_wp2_with fail
    go_ret
    exact lit_ret w (checksL 3) _ _ 40 (by kernel_rfl) rfl (by decide)
  · go_enter Try.func27, Try.ntmps27
    go_wp2_with fail
    go_ret
    exact lit_ret w (checksL 4) _ _ 40 (by kernel_rfl) rfl (by decide)

end Go.Proofs.Ytnmmpgjcikhnhaa
