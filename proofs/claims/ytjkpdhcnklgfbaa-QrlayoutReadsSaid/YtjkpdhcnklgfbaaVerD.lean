/-
  Contracts of the reference's Aligns, tables and Codewords.
  Conditions: none for the last of each.
Contracts of the reference's Codewords, of qrversion's shares, Structure and Capacity.
  Conditions: none for the last of each.
Contracts of qrversion's Structure and Capacity, and of their references.
  Conditions: none for the last of each.
Contracts of the reference's Capacity, and of the examples.
  Conditions: none.
-/
import Derived.Test.YtjkpdhcnklgfbaaVerC
import Derived.Test.YtjkpdhcnklgfbaaTabR
import Derived.Deep.RegionWith
import Derived.BigRegion
import Derived.Deep.DeepCutAuto
namespace Go.Proofs.Ytjkpdhcnklgfbaa
open Go.RowKit Go.Bs Go.Qrv

def alTo (v k : Nat) : List Int := 6 :: (List.range k).map fun i => ((4 * v + 10 - stepN v * (v / 7 - i) : Nat) : Int)
theorem alTo_succ (v k : Nat) : ints (alTo v (k + 1)) = ints (alTo v k) ++ [.int .i64 ((4 * v + 10 - stepN v * (v / 7 - k) : Nat) : Int)] := by
  simp [alTo, List.range_succ, ints]
theorem alTo_all (v : Nat) (h : 2 ≤ v) : alTo v (v / 7 + 1) = al v := by unfold al; rw [if_neg (by omega)]; rfl
theorem step_int : ∀ i : Fin 40, (8 * ((i.val + 1 : Nat) : Int) + 3 * (((i.val + 1 : Nat) : Int) / 7 + 2) + 5) / (4 * (((i.val + 1 : Nat) : Int) / 7 + 2) - 4) * 2 = (stepN (i.val + 1) : Int) := by decide +kernel
theorem step_bd : ∀ i : Fin 40, stepN (i.val + 1) ≤ 28 ∧ stepN (i.val + 1) * ((i.val + 1) / 7) ≤ 4 * (i.val + 1) + 10 := by decide +kernel

set_option maxRecDepth 20000 in
set_option maxHeartbeats 800000 in
theorem raligns_any (v : Int) (w : World) : Calls Try.prog 29 #[.int .i64 v] w (RetSl w (ints (alRes v).1, (alRes v).2)) := by
  by_cases hv : inV v
  · obtain ⟨n, rfl, h1, h2⟩ := inV_nat hv
    rw [alRes_1 hv]
    clear hv
    by_cases h11 : n = 1
    · subst h11
      go_enter Try.func29, Try.ntmps29
      go_wp2_with fail
      go_ret2
      exact RetSl.nil _ _ _ (Ext.refl _)
    · have hn2 : 2 ≤ n := by omega
      have hz1 : ((n : Int) == 1) = false := by rw [beq_eq_false_iff_ne]; omega
      have hsb := step_bd ⟨n - 1, by omega⟩
      simp only [show n - 1 + 1 = n by omega] at hsb
      have HA := Lib.hid (alTo_all n hn2)
      have hq : (n : Int) / 7 = ((n / 7 : Nat) : Int) := by omega
      have HQ := Lib.hid hq
      have hs : wrap64 ((8 * (n : Int) + 3 * ((n : Int) / 7 + 2) + 5) / (4 * ((n : Int) / 7 + 2) - 4) * 2) = (stepN n : Int) := by
        have := step_int ⟨n - 1, by omega⟩
        simp only [show n - 1 + 1 = n by omega] at this
        rw [this]
        exact IntWalk.wrap64_in _ ⟨by omega, by omega⟩
      have HS := Lib.hid hs
      obtain ⟨q, hqq⟩ : ∃ q, q = n / 7 := ⟨_, rfl⟩
      have hq5 : q ≤ 5 := by omega
      obtain ⟨S, hSS⟩ : ∃ S, S = stepN n := ⟨_, rfl⟩
      have HQQ := Lib.hid hqq
      have HSS := Lib.hid hSS
      rw [← hSS, ← hqq] at hsb
      rw [← hqq] at HQ HA
      rw [← hSS] at HS
      clear h11 hq hs hqq hSS
      have hd0 : ¬ (4 * ((n : Int) / 7 + 2) - 4 = 0) := by omega
      go_enter Try.func29, Try.ntmps29
      go_wp2_with fail
      rw [HS.out, HQ.out]
      have hown0 : (w.alloc (.cells #[.int .i64 6] 3)).ownsRow w.heap.size 3 1 (.slice (some ⟨w.heap.size, 0, none⟩) 1 1) 1 (ints (alTo n 0)) := ⟨rfl, Or.inr ⟨_, 1, _, rfl, Nat.le_refl _, heap_alloc_new _ _, by omega, by unfold maxLen; omega, rfl, rfl⟩⟩
      have HO := Lib.hid hown0
      clear hown0 hd0
      go_loopw [6, 7] (fun s i wr => ∃ k : Nat, k ≤ q + 1 ∧ i = .int .i64 (k + 1 : Nat) ∧ wr.ownsRow w.heap.size 3 1 s (k + 1) (ints (alTo n k)) ∧ Below w.heap.size w wr) (fun _ i _ => q + 2 - (intOf i).toNat)
      case atStart => exact ⟨0, by omega, rfl, HO.out, Ext.alloc _ _⟩
      case round =>
        obtain ⟨k, hk, rfl, hown, hbel⟩ := hrel
        have hsz := hbel.size
        by_cases hlt : k < q + 1
        · have hqk : ((q : Int) + 2 - 1 - ((k + 1 : Nat) : Int)) = ((q - k : Nat) : Int) := by omega
          have hmul : S * (q - k) ≤ S * q := Nat.mul_le_mul_left _ (by omega)
          have hw : wrap64 ((S : Int) * ((q - k : Nat) : Int)) = ((S * (q - k) : Nat) : Int) := by
            rw [Int.natCast_mul]; exact IntWalk.wrap64_in _ ⟨by rw [← Int.natCast_mul]; omega, by rw [← Int.natCast_mul]; omega⟩
          have HZ := Lib.hid (alTo_succ n k)
          rw [← HSS.out, ← HQQ.out] at HZ
          have HM : Hid (4 * (n : Int) + 10 - ((S * (q - k) : Nat) : Int) = ((4 * n + 10 - S * (q - k) : Nat) : Int)) := by show _ = _; omega
          obtain ⟨M, hM⟩ : ∃ M, M = S * (q - k) := ⟨_, rfl⟩
          rw [← hM] at hw hmul HZ HM
          clear hM
          have hMb : M ≤ 4 * n + 10 := by omega
          go_wp2_with (at_builtin; refine wpList_push rfl _ _ 60 rfl w.heap.size 3 (.int .i64 0) 8 Try.infoInt rfl Try.underlying60 _ rfl (k + 1) _ hown _ rfl rfl (by omega) (by omega) hbel (by omega) ?_; intro s2 w2 hown2 hbel2 _)
          have hval : wrap64 (4 * (n : Int) + 10 - wrap64 ((S : Int) * ((q : Int) + 2 - 1 - ((k : Int) + 1)))) = ((4 * n + 10 - M : Nat) : Int) := by
            rw [show (q : Int) + 2 - 1 - ((k : Int) + 1) = ((q - k : Nat) : Int) by omega, hw, HM.out]
            exact IntWalk.wrap64_in _ ⟨by omega, by omega⟩
          rw [hval, ← HZ.out] at hown2
          clear hown
          go_roundw
          case rel => exact ⟨k + 1, by omega, by go_num, hown2, hbel2⟩
          case measure => simp [intOf]; omega
        · obtain rfl : k = q + 1 := by omega
          rw [HA.out] at hown
          go_wp2_with fail
          go_ret2
          exact RetSl.own hown hbel
  · rw [alRes_2 hv]
    rcases not_inV hv with h1 | ⟨h1, h2⟩
    all_goals
      first | (have hd : decide (v ≤ 40) = false := by simp; omega) | skip
      clear hv
      go_enter Try.func29, Try.ntmps29
      go_wp2_with fail
      (go_ret2; exact RetSl.nil _ _ _ (Ext.refl _))

def wordsL : List Int := (List.range 40).map fun i => (wordsN (i + 1) : Int)
def blocksL (l : Nat) : List Int := (List.range 40).map fun i => (blk l (i + 1) : Int)
def checksL (l : Nat) : List Int := (List.range 40).map fun i => (chk l (i + 1) : Int)
theorem wordsL_at (n : Nat) (h1 : 1 ≤ n) (h2 : n ≤ 40) : (ints wordsL)[n - 1]? = some (.int .i64 (wordsN n)) := by
  simp [wordsL, ints, show n - 1 < 40 by omega, show n - 1 + 1 = n by omega]
theorem blocksL_at (l n : Nat) (h1 : 1 ≤ n) (h2 : n ≤ 40) : (ints (blocksL l))[n - 1]? = some (.int .i64 (blk l n)) := by
  simp [blocksL, ints, show n - 1 < 40 by omega, show n - 1 + 1 = n by omega]
theorem checksL_at (l n : Nat) (h1 : 1 ≤ n) (h2 : n ≤ 40) : (ints (checksL l))[n - 1]? = some (.int .i64 (chk l n)) := by
  simp [checksL, ints, show n - 1 < 40 by omega, show n - 1 + 1 = n by omega]

theorem lit_ret (w : World) (L : List Int) (cs : Array Value) (t : TypeId) (n : Nat) (h : cs = (ints L).toArray) (hn : L.length = n) (hb : n ≤ 9223372036854775807) :
    RetRow w (ints L) (.returned (.slice (some ⟨w.heap.size, 0, none⟩) n n)) (w.alloc (.cells cs t)) := by
  subst h hn
  refine ⟨_, L.length, ?_, Row.lit w (ints L) t, by simp [ints], hb, fun h => (by cases h), Ext.alloc _ _⟩
  rw [length_ints]

set_option maxRecDepth 20000 in
set_option maxHeartbeats 800000 in
theorem vwords_any (w : World) : Calls Try.prog 59 #[] w (RetRow w (ints wordsL)) := by
  go_enter Try.func59, Try.ntmps59
  go_wp2_with fail
  go_ret
  exact lit_ret w wordsL _ _ 40 (by kernel_rfl) rfl (by decide)

theorem rem_all : ∀ i : Fin 40, remN (i.val + 1) = if 2 ≤ i.val + 1 ∧ i.val + 1 ≤ 6 then 7 else if (14 ≤ i.val + 1 ∧ i.val + 1 ≤ 20) ∨ (28 ≤ i.val + 1 ∧ i.val + 1 ≤ 34) then 3 else if 21 ≤ i.val + 1 ∧ i.val + 1 ≤ 27 then 4 else 0 := by decide +kernel
theorem rem_at (n : Nat) (h1 : 1 ≤ n) (h2 : n ≤ 40) : remN n = if 2 ≤ n ∧ n ≤ 6 then 7 else if (14 ≤ n ∧ n ≤ 20) ∨ (28 ≤ n ∧ n ≤ 34) then 3 else if 21 ≤ n ∧ n ≤ 27 then 4 else 0 := by
  have := rem_all ⟨n - 1, by omega⟩
  simp only [show n - 1 + 1 = n by omega] at this
  exact this

set_option maxRecDepth 20000 in
set_option maxHeartbeats 800000 in
theorem rcodewords_any (v : Int) (w : World) : Calls Try.prog 28 #[.int .i64 v] w fun e w' => e = .returned (three (cwRes v)) ∧ Ext w w' := by
  by_cases hv : inV v
  · obtain ⟨n, rfl, h1, h2⟩ := inV_nat hv
    rw [cwRes_1 hv, rem_at n h1 h2]
    clear hv
    have hn0 : (0 : Int) ≤ (n : Int) - 1 := by omega
    have hn1 : ((n : Int) - 1).toNat = n - 1 := by omega
    have hn2 : (n : Int) - 1 < 40 := by omega
    have hcases : n = 1 ∨ (2 ≤ n ∧ n ≤ 6) ∨ (7 ≤ n ∧ n ≤ 13) ∨ (14 ≤ n ∧ n ≤ 20) ∨ (21 ≤ n ∧ n ≤ 27) ∨ (28 ≤ n ∧ n ≤ 34) ∨ (35 ≤ n) := by omega
    rcases hcases with rfl | ⟨k1, k2⟩ | ⟨k1, k2⟩ | ⟨k1, k2⟩ | ⟨k1, k2⟩ | ⟨k1, k2⟩ | k1
    case inl =>
      clear hn0 hn1 hn2
      go_enter Try.func28, Try.ntmps28
      go_wp2_with fail
      refine (vwords_any _).mono ?_
      intro e w1 hret
      obtain ⟨ao, cap, rfl, hr, hc, hm, hn, hx⟩ := hret.ints
      clear hret
      rw [show wordsL.length = 40 from rfl]
      obtain ⟨a, rfl, hcell⟩ := hr.at (wordsL_at 1 (by omega) (by omega))
      have hcell0 : w1.cell? a = some (.int .i64 (wordsN 1)) := hcell
      clear hcell
      go_wp2_with fail
      go_ret3
      exact ⟨rfl, hx⟩
    all_goals
      first
        | rw [if_pos (by omega)]
        | rw [if_neg (by omega), if_pos (by omega)]
        | rw [if_neg (by omega), if_neg (by omega), if_pos (by omega)]
        | rw [if_neg (by omega), if_neg (by omega), if_neg (by omega)]
      go_enter Try.func28, Try.ntmps28
      go_wp2_with fail
      refine (vwords_any _).mono ?_
      intro e w1 hret
      obtain ⟨ao, cap, rfl, hr, hc, hm, hn, hx⟩ := hret.ints
      clear hret
      rw [show wordsL.length = 40 from rfl]
      obtain ⟨a, rfl, hcell⟩ := hr.at (wordsL_at n h1 h2)
      go_wp2_with fail
      go_ret3
      exact ⟨rfl, hx⟩
  · rw [cwRes_2 hv]
    rcases not_inV hv with h1 | ⟨h1, h2⟩
    all_goals
      clear hv
      go_enter Try.func28, Try.ntmps28
      go_wp2_with fail
      go_ret3
      exact ⟨rfl, Ext.refl _⟩

theorem shares_bd : ∀ i : Fin 40, ∀ j : Fin 4, 7 ≤ chk (j.val + 1) (i.val + 1) ∧ chk (j.val + 1) (i.val + 1) ≤ 30 ∧ 1 ≤ blk (j.val + 1) (i.val + 1) ∧ blk (j.val + 1) (i.val + 1) ≤ 81 ∧
    chk (j.val + 1) (i.val + 1) * blk (j.val + 1) (i.val + 1) + blk (j.val + 1) (i.val + 1) ≤ wordsN (i.val + 1) ∧ wordsN (i.val + 1) ≤ 3706 := by decide +kernel
theorem shares_at (n l : Nat) (h1 : 1 ≤ n) (h2 : n ≤ 40) (h3 : 1 ≤ l) (h4 : l ≤ 4) : 7 ≤ chk l n ∧ chk l n ≤ 30 ∧ 1 ≤ blk l n ∧ blk l n ≤ 81 ∧ chk l n * blk l n + blk l n ≤ wordsN n ∧ wordsN n ≤ 3706 := by
  have := shares_bd ⟨n - 1, by omega⟩ ⟨l - 1, by omega⟩
  simp only [show n - 1 + 1 = n by omega, show l - 1 + 1 = l by omega] at this
  exact this

def shRes (v l : Int) : Int × Int × Int × Int := if inV v then if l < 1 ∨ 4 < l then (0, 0, 0, 15) else (dataN v.toNat l.toNat, chk l.toNat v.toNat, blk l.toNat v.toNat, 0) else (0, 0, 0, 14)
theorem shRes_1 {v l : Int} (h : ¬ inV v) : shRes v l = (0, 0, 0, 14) := by unfold shRes; rw [if_neg h]
theorem shRes_2 {v l : Int} (h : inV v) (h2 : l < 1 ∨ 4 < l) : shRes v l = (0, 0, 0, 15) := by unfold shRes; rw [if_pos h, if_pos h2]
theorem shRes_3 {v l : Nat} (h : inV v) (h2 : 1 ≤ l ∧ l ≤ 4) : shRes v l = ((dataN v l : Int), (chk l v : Int), (blk l v : Int), 0) := by unfold shRes; rw [if_pos h, if_neg (by omega)]; rfl

def blkV (p : Int × Int × Int × Int) : Value := .agg #[.int .i64 p.1, .int .i64 p.2.1, .int .i64 p.2.2.1, .int .i64 p.2.2.2]
def stN (n l : Nat) : Int × Int × Int × Int := ((blk l n : Int) - (dataN n l % blk l n : Nat), (dataN n l % blk l n : Nat), (dataN n l / blk l n : Nat), (chk l n : Int))
def stRes (v l : Int) : (Int × Int × Int × Int) × Int := if inV v then if l < 1 ∨ 4 < l then ((0, 0, 0, 0), 15) else (stN v.toNat l.toNat, 0) else ((0, 0, 0, 0), 14)
theorem stRes_1 {v l : Int} (h : ¬ inV v) : stRes v l = ((0, 0, 0, 0), 14) := by unfold stRes; rw [if_neg h]
theorem stRes_2 {v l : Int} (h : inV v) (h2 : l < 1 ∨ 4 < l) : stRes v l = ((0, 0, 0, 0), 15) := by unfold stRes; rw [if_pos h, if_pos h2]
theorem stRes_3 {v l : Nat} (h : inV v) (h2 : 1 ≤ l ∧ l ≤ 4) : stRes v l = (stN v l, 0) := by unfold stRes; rw [if_pos h, if_neg (by omega)]; rfl
def cpRes (v l : Int) : Int × Int := if inV v then if l < 1 ∨ 4 < l then (0, 15) else (dataN v.toNat l.toNat, 0) else (0, 14)
theorem cpRes_1 {v l : Int} (h : ¬ inV v) : cpRes v l = (0, 14) := by unfold cpRes; rw [if_neg h]
theorem cpRes_2 {v l : Int} (h : inV v) (h2 : l < 1 ∨ 4 < l) : cpRes v l = (0, 15) := by unfold cpRes; rw [if_pos h, if_pos h2]
theorem cpRes_3 {v l : Nat} (h : inV v) (h2 : 1 ≤ l ∧ l ≤ 4) : cpRes v l = ((dataN v l : Int), 0) := by unfold cpRes; rw [if_pos h, if_neg (by omega)]; rfl
theorem cp_sh (v l : Int) : cpRes v l = ((shRes v l).1, (shRes v l).2.2.2) := by
  unfold cpRes shRes; split
  · split <;> rfl
  · rfl

theorem level_cases (l : Int) : (l < 1 ∨ 4 < l) ∨ ∃ k : Nat, l = k ∧ 1 ≤ k ∧ k ≤ 4 := by
  by_cases h : l < 1 ∨ 4 < l
  · exact Or.inl h
  · exact Or.inr ⟨l.toNat, by omega, by omega, by omega⟩

theorem wrap_nat (q : Nat) (h : q ≤ 9223372036854775807) : wrap64 (q : Int) = (q : Int) := IntWalk.wrap64_in _ ⟨by omega, by omega⟩

theorem four_set {w : World} {g : Nat} {x0 x1 x2 x3 : Value} {t : TypeId} (h : w.heap[g]? = some (.cells #[x0, x1, x2, x3] t (0, 0))) (v0 v1 v2 v3 : Value) :
    ((((w.setCell ⟨g, 0, none⟩ v0).setCell ⟨g, 1, none⟩ v1).setCell ⟨g, 2, none⟩ v2).setCell ⟨g, 3, none⟩ v3).heap[g]? = some (.cells #[v0, v1, v2, v3] t (0, 0)) := by
  have h0 := heap_setCell_same w g 0 _ t v0 h
  have h1 := heap_setCell_same _ g 1 _ t v1 h0
  have h2 := heap_setCell_same _ g 2 _ t v2 h1
  have h3 := heap_setCell_same _ g 3 _ t v3 h2
  simpa using h3
def rtRes (v l : Int) : Int := if inV v then if l < 1 ∨ 4 < l then 15 else 0 else 14
theorem cp_st (B D : Nat) : wrap64 (wrap64 ((B : Int) * ((D / B : Nat) : Int)) + ((D % B : Nat) : Int)) = wrap64 (D : Int) := by
  have h := Nat.div_add_mod D B
  generalize D / B = q at h ⊢
  generalize D % B = r at h ⊢
  subst h
  rw [Int.natCast_add, Int.natCast_mul]
  unfold wrap64
  omega

theorem ex_size : szRes 1 = (21, 0) := by decide +kernel
theorem ex_al : alRes 7 = ([6, 22, 38], 0) := by decide +kernel
theorem ex_cw : cwRes 2 = (44, 7, 0) := by decide +kernel
theorem ex_st : stRes 5 3 = ((2, 2, 15, 18), 0) := by decide +kernel
theorem ex_cp : cpRes 5 3 = (62, 0) := by decide +kernel

end Go.Proofs.Ytjkpdhcnklgfbaa
