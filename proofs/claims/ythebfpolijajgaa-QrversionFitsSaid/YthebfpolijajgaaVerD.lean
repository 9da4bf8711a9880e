/-
  Contracts of the reference's Aligns, tables and Codewords.
  Conditions: none for the last of each.
Contracts of the reference's Codewords, of qrversion's shares, Structure and Capacity.
  Conditions: none for the last of each.
Contracts of qrversion's Structure and Capacity, and of their references.
  Conditions: none for the last of each.
Contracts of the reference's Capacity, and of the examples.
  Conditions: none.
-/
import Derived.Test.YthebfpolijajgaaVerC
import Derived.Test.YthebfpolijajgaaTabR
import Derived.Deep.RegionWith
import Derived.BigRegion
import Derived.Deep.DeepCutAuto
namespace Go.Proofs.Ythebfpolijajgaa
open Go.RowKit Go.Bs Go.Qrv

def alTo (v k : Nat) : List Int := 6 :: (List.range k).map fun i => ((4 * v + 10 - stepN v * (v / 7 - i) : Nat) : Int)
theorem alTo_succ (v k : Nat) : ints (alTo v (k + 1)) = ints (alTo v k) ++ [.int .i64 ((4 * v + 10 - stepN v * (v / 7 - k) : Nat) : Int)] := by
  simp [alTo, List.range_succ, ints]
theorem alTo_all (v : Nat) (h : 2 ≤ v) : alTo v (v / 7 + 1) = al v := by unfold al; rw [if_neg (by omega)]; rfl
theorem step_int : ∀ i : Fin 40, (8 * ((i.val + 1 : Nat) : Int) + 3 * (((i.val + 1 : Nat) : Int) / 7 + 2) + 5) / (4 * (((i.val + 1 : Nat) : Int) / 7 + 2) - 4) * 2 = (stepN (i.val + 1) : Int) := by decide +kernel
theorem step_bd : ∀ i : Fin 40, stepN (i.val + 1) ≤ 28 ∧ stepN (i.val + 1) * ((i.val + 1) / 7) ≤ 4 * (i.val + 1) + 10 := by decide +kernel

def wordsL : List Int := (List.range 40).map fun i => (wordsN (i + 1) : Int)
def blocksL (l : Nat) : List Int := (List.range 40).map fun i => (blk l (i + 1) : Int)
def checksL (l : Nat) : List Int := (List.range 40).map fun i => (chk l (i + 1) : Int)
theorem wordsL_at (n : Nat) (h1 : 1 ≤ n) (h2 : n ≤ 40) : (ints wordsL)[n - 1]? = some (.int .i64 (wordsN n)) := by
  simp [wordsL, ints, show n - 1 < 40 by omega, show n - 1 + 1 = n by omega]
theorem blocksL_at (l n : Nat) (h1 : 1 ≤ n) (h2 : n ≤ 40) : (ints (blocksL l))[n - 1]? = some (.int .i64 (blk l n)) := by
  simp [blocksL, ints, show n - 1 < 40 by omega, show n - 1 + 1 = n by omega]
theorem checksL_at (l n : Nat) (h1 : 1 ≤ n) (h2 : n ≤ 40) : (ints (checksL l))[n - 1]? = some (.int .i64 (chk l n)) := by
  simp [checksL, ints, show n - 1 < 40 by omega, show n - 1 + 1 = n by omega]

theorem lit_ret (w : World) (L : List Int) (cs : Array Value) (t : TypeId) (n : Nat) (h : cs = (ints L).toArray) (hn : L.length = n) (hb : n ≤ 9223372036854775807) :
    RetRow w (ints L) (.returned (.slice (some ⟨w.heap.size, 0, none⟩) n n)) (w.alloc (.cells cs t)) := by
  subst h hn
  refine ⟨_, L.length, ?_, Row.lit w (ints L) t, by simp [ints], hb, fun h => (by cases h), Ext.alloc _ _⟩
  rw [length_ints]

set_option maxRecDepth 20000 in
set_option maxHeartbeats 800000 in
theorem vwords_any (w : World) : Calls Try.prog 89 #[] w (RetRow w (ints wordsL)) := by
  go_enter Try.func89, Try.ntmps89
  go_wp2_with fail
  go_ret
  exact lit_ret w wordsL _ _ 40 (by kernel_rfl) rfl (by decide)

set_option maxRecDepth 20000 in
set_option maxHeartbeats 800000 in
theorem blocks_any (l : Nat) (w : World) (h1 : 1 ≤ l) (h4 : l ≤ 4) : Calls Try.prog 87 #[.int .i64 l] w (RetRow w (ints (blocksL l))) := by
  obtain rfl | rfl | rfl | rfl : l = 1 ∨ l = 2 ∨ l = 3 ∨ l = 4 := by omega
  · go_enter Try.func87, Try.ntmps87
    go_wp2_with fail
    go_ret
    exact lit_ret w (blocksL 1) _ _ 40 (by kernel_rfl) rfl (by decide)
  · go_enter Try.func87, Try.ntmps87
    go_wp2_with fail
    go_ret
    exact lit_ret w (blocksL 2) _ _ 40 (by kernel_rfl) rfl (by decide)
  · go_enter Try.func87, Try.ntmps87
    go_wp2_with fail
    go_ret
    exact lit_ret w (blocksL 3) _ _ 40 (by kernel_rfl) rfl (by decide)
  · go_enter Try.func87, Try.ntmps87
    go_wp2_with fail
    go_ret
    exact lit_ret w (blocksL 4) _ _ 40 (by kernel_rfl) rfl (by decide)
set_option maxRecDepth 20000 in
set_option maxHeartbeats 800000 in
theorem checks_any (l : Nat) (w : World) (h1 : 1 ≤ l) (h4 : l ≤ 4) : Calls Try.prog 88 #[.int .i64 l] w (RetRow w (ints (checksL l))) := by
  obtain rfl | rfl | rfl | rfl : l = 1 ∨ l = 2 ∨ l = 3 ∨ l = 4 := by omega
  · go_enter Try.func88, Try.ntmps88
    go_wp2_with fail
    go_ret
    exact lit_ret w (checksL 1) _ _ 40 (by kernel_rfl) rfl (by decide)
  · go_enter Try.func88, Try.ntmps88
    go_wp2_with fail
    go_ret
    exact lit_ret w (checksL 2) _ _ 40 (by kernel_rfl) rfl (by decide)
  · go_enter Try.func88, Try.ntmps88
    go_wp2_with fail
    go_ret
    exact lit_ret w (checksL 3) _ _ 40 (by kernel_rfl) rfl (by decide)
  · go_enter Try.func88, Try.ntmps88
    go_wp2_with fail
    go_ret
    exact lit_ret w (checksL 4) _ _ 40 (by kernel_rfl) rfl (by decide)


theorem rem_all : ∀ i : Fin 40, remN (i.val + 1) = if 2 ≤ i.val + 1 ∧ i.val + 1 ≤ 6 then 7 else if (14 ≤ i.val + 1 ∧ i.val + 1 ≤ 20) ∨ (28 ≤ i.val + 1 ∧ i.val + 1 ≤ 34) then 3 else if 21 ≤ i.val + 1 ∧ i.val + 1 ≤ 27 then 4 else 0 := by decide +kernel
theorem rem_at (n : Nat) (h1 : 1 ≤ n) (h2 : n ≤ 40) : remN n = if 2 ≤ n ∧ n ≤ 6 then 7 else if (14 ≤ n ∧ n ≤ 20) ∨ (28 ≤ n ∧ n ≤ 34) then 3 else if 21 ≤ n ∧ n ≤ 27 then 4 else 0 := by
  have := rem_all ⟨n - 1, by omega⟩
  simp only [show n - 1 + 1 = n by omega] at this
  exact this

theorem shares_bd : ∀ i : Fin 40, ∀ j : Fin 4, 7 ≤ chk (j.val + 1) (i.val + 1) ∧ chk (j.val + 1) (i.val + 1) ≤ 30 ∧ 1 ≤ blk (j.val + 1) (i.val + 1) ∧ blk (j.val + 1) (i.val + 1) ≤ 81 ∧
    chk (j.val + 1) (i.val + 1) * blk (j.val + 1) (i.val + 1) + blk (j.val + 1) (i.val + 1) ≤ wordsN (i.val + 1) ∧ wordsN (i.val + 1) ≤ 3706 := by decide +kernel
theorem shares_at (n l : Nat) (h1 : 1 ≤ n) (h2 : n ≤ 40) (h3 : 1 ≤ l) (h4 : l ≤ 4) : 7 ≤ chk l n ∧ chk l n ≤ 30 ∧ 1 ≤ blk l n ∧ blk l n ≤ 81 ∧ chk l n * blk l n + blk l n ≤ wordsN n ∧ wordsN n ≤ 3706 := by
  have := shares_bd ⟨n - 1, by omega⟩ ⟨l - 1, by omega⟩
  simp only [show n - 1 + 1 = n by omega, show l - 1 + 1 = l by omega] at this
  exact this

def shRes (v l : Int) : Int × Int × Int × Int := if inV v then if l < 1 ∨ 4 < l then (0, 0, 0, 15) else (dataN v.toNat l.toNat, chk l.toNat v.toNat, blk l.toNat v.toNat, 0) else (0, 0, 0, 14)
theorem shRes_1 {v l : Int} (h : ¬ inV v) : shRes v l = (0, 0, 0, 14) := by unfold shRes; rw [if_neg h]
theorem shRes_2 {v l : Int} (h : inV v) (h2 : l < 1 ∨ 4 < l) : shRes v l = (0, 0, 0, 15) := by unfold shRes; rw [if_pos h, if_pos h2]
theorem shRes_3 {v l : Nat} (h : inV v) (h2 : 1 ≤ l ∧ l ≤ 4) : shRes v l = ((dataN v l : Int), (chk l v : Int), (blk l v : Int), 0) := by unfold shRes; rw [if_pos h, if_neg (by omega)]; rfl

set_option maxRecDepth 20000 in
set_option maxHeartbeats 800000 in
theorem shares_any (v l : Int) (w : World) : Calls Try.prog 71 #[.int .i64 v, .int .i64 l] w fun e w' => e = .returned (four (shRes v l)) ∧ Ext w w' := by
  by_cases hv : inV v
  · by_cases hl : l < 1 ∨ 4 < l
    · rw [shRes_2 hv hl]
      have HV := Lib.hid hv
      clear hv
      rcases Int.lt_or_le l 1 with h0 | h0
      all_goals
        first | (have h7 : 4 < l := by omega) | skip
        clear hl
        go_enter Try.func71, Try.ntmps71
        go_wp2_with fail
        refine (exists_yes _ _ HV.out).mono ?_
        rintro e w' ⟨rfl, rfl⟩
        go_wp2_with fail
        refine bodyPost_ret (results_tmp4 rfl _ _ _) rfl ?_
        exact ⟨rfl, Ext.refl _⟩
    · obtain ⟨n, rfl, h1, h2⟩ := inV_nat hv
      obtain ⟨k, rfl⟩ : ∃ k : Nat, l = k := ⟨l.toNat, by omega⟩
      have hk1 : 1 ≤ k := by omega
      have hk4 : k ≤ 4 := by omega
      rw [shRes_3 hv ⟨hk1, hk4⟩]
      have HV := Lib.hid hv
      clear hv hl
      have hsh := shares_at n k h1 h2 hk1 hk4
      have hw : wrap64 ((chk k n : Int) * (blk k n : Int)) = ((chk k n * blk k n : Nat) : Int) := by
        rw [Int.natCast_mul]; exact IntWalk.wrap64_in _ ⟨by rw [← Int.natCast_mul]; omega, by rw [← Int.natCast_mul]; omega⟩
      have hd : (wordsN n : Int) - ((chk k n * blk k n : Nat) : Int) = (dataN n k : Int) := by unfold dataN; omega
      have HW := Lib.hid hw
      have HD := Lib.hid hd
      have hd2 : wrap64 (dataN n k : Int) = (dataN n k : Int) := by rw [← hd]; exact IntWalk.wrap64_in _ ⟨by omega, by omega⟩
      have HD2 := Lib.hid hd2
      clear hw hd hd2 hsh
      obtain rfl | rfl | rfl | rfl : k = 1 ∨ k = 2 ∨ k = 3 ∨ k = 4 := by omega
      all_goals
        clear hk1 hk4
        go_enter Try.func71, Try.ntmps71
        go_wp2_with fail
        refine (exists_yes _ _ HV.out).mono ?_
        rintro e w' ⟨rfl, rfl⟩
        go_wp2_with fail
        refine (row_any n _ h1 h2).mono ?_
        rintro e w1 ⟨rfl, HE⟩
        rw [show (ints (rowRow n)).toArray = ten n from rfl]
        unfold ten
        go_wp2_with fail
        go_quiet (fail)
        go_wp2_with fail
        rw [HW.out, HD.out]
        refine bodyPost_ret (results_tmp4 rfl _ _ _) rfl ?_
        exact ⟨by rw [HD2.out]; rfl, (HE.trans (Ext.alloc _ _)).drewN _⟩
  · rw [shRes_1 hv]
    go_enter Try.func71, Try.ntmps71
    go_wp2_with fail
    refine (exists_no _ _ hv).mono ?_
    rintro e w' ⟨rfl, rfl⟩
    go_wp2_with fail
    refine bodyPost_ret (results_tmp4 rfl _ _ _) rfl ?_
    exact ⟨rfl, Ext.refl _⟩


def blkV (p : Int × Int × Int × Int) : Value := .agg #[.int .i64 p.1, .int .i64 p.2.1, .int .i64 p.2.2.1, .int .i64 p.2.2.2]
def stN (n l : Nat) : Int × Int × Int × Int := ((blk l n : Int) - (dataN n l % blk l n : Nat), (dataN n l % blk l n : Nat), (dataN n l / blk l n : Nat), (chk l n : Int))
def stRes (v l : Int) : (Int × Int × Int × Int) × Int := if inV v then if l < 1 ∨ 4 < l then ((0, 0, 0, 0), 15) else (stN v.toNat l.toNat, 0) else ((0, 0, 0, 0), 14)
theorem stRes_1 {v l : Int} (h : ¬ inV v) : stRes v l = ((0, 0, 0, 0), 14) := by unfold stRes; rw [if_neg h]
theorem stRes_2 {v l : Int} (h : inV v) (h2 : l < 1 ∨ 4 < l) : stRes v l = ((0, 0, 0, 0), 15) := by unfold stRes; rw [if_pos h, if_pos h2]
theorem stRes_3 {v l : Nat} (h : inV v) (h2 : 1 ≤ l ∧ l ≤ 4) : stRes v l = (stN v l, 0) := by unfold stRes; rw [if_pos h, if_neg (by omega)]; rfl
def cpRes (v l : Int) : Int × Int := if inV v then if l < 1 ∨ 4 < l then (0, 15) else (dataN v.toNat l.toNat, 0) else (0, 14)
theorem cpRes_1 {v l : Int} (h : ¬ inV v) : cpRes v l = (0, 14) := by unfold cpRes; rw [if_neg h]
theorem cpRes_2 {v l : Int} (h : inV v) (h2 : l < 1 ∨ 4 < l) : cpRes v l = (0, 15) := by unfold cpRes; rw [if_pos h, if_pos h2]
theorem cpRes_3 {v l : Nat} (h : inV v) (h2 : 1 ≤ l ∧ l ≤ 4) : cpRes v l = ((dataN v l : Int), 0) := by unfold cpRes; rw [if_pos h, if_neg (by omega)]; rfl
theorem cp_sh (v l : Int) : cpRes v l = ((shRes v l).1, (shRes v l).2.2.2) := by
  unfold cpRes shRes; split
  · split <;> rfl
  · rfl

set_option maxRecDepth 20000 in
set_option maxHeartbeats 800000 in
theorem capacity_any (v l : Int) (w : World) : Calls Try.prog 40 #[.int .i64 v, .int .i64 l] w fun e w' => e = .returned (two (cpRes v l)) ∧ Ext w w' := by
  rw [cp_sh]
  obtain ⟨r, hr⟩ : ∃ r, r = shRes v l := ⟨_, rfl⟩
  rw [← hr]
  have HR := Lib.hid hr
  clear hr
  obtain ⟨a, b, c, d⟩ := r
  go_enter Try.func40, Try.ntmps40
  go_wp2_with fail
  refine (shares_any _ _ _).mono ?_
  rw [← HR.out]
  rintro e w1 ⟨rfl, HE⟩
  simp only [four]
  go_wp2_with fail
  go_ret2
  exact ⟨rfl, HE⟩

theorem level_cases (l : Int) : (l < 1 ∨ 4 < l) ∨ ∃ k : Nat, l = k ∧ 1 ≤ k ∧ k ≤ 4 := by
  by_cases h : l < 1 ∨ 4 < l
  · exact Or.inl h
  · exact Or.inr ⟨l.toNat, by omega, by omega, by omega⟩

theorem wrap_nat (q : Nat) (h : q ≤ 9223372036854775807) : wrap64 (q : Int) = (q : Int) := IntWalk.wrap64_in _ ⟨by omega, by omega⟩

set_option maxRecDepth 20000 in
set_option maxHeartbeats 800000 in
theorem structure_any (v l : Int) (w : World) : Calls Try.prog 44 #[.int .i64 v, .int .i64 l] w fun e w' => e = .returned (.tuple #[blkV (stRes v l).1, .int .i64 (stRes v l).2]) ∧ Ext w w' := by
  have bad : ∀ E : Int, (E == 0) = false → Hid (shRes v l = (0, 0, 0, E)) → stRes v l = ((0, 0, 0, 0), E) → Calls Try.prog 44 #[.int .i64 v, .int .i64 l] w fun e w' => e = .returned (.tuple #[blkV (stRes v l).1, .int .i64 (stRes v l).2]) ∧ Ext w w' := by
    intro E hE HS hst
    rw [hst]
    clear hst
    have hE2 : (E != 0) = true := by rw [bne, hE]; rfl
    go_enter Try.func44, Try.ntmps44
    go_wp2_with fail
    refine (shares_any _ _ _).mono ?_
    rw [HS.out]
    rintro e w1 ⟨rfl, HE⟩
    simp only [four]
    have HG := Lib.hid HE.new
    have HX : Ext w w1 := (Ext.alloc _ _).trans HE
    clear HE
    go_wp2_with ((with_reducible show wpList _ _ _ (⟨none, .store 69 _ _, _, _, _, _⟩ :: _) _ _); refine wpList_storeOwn rfl 69 _ _ rfl w.heap.size _ rfl rfl 69 _ HG.out (by kernel_rfl) (by kernel_rfl) (by kernel_rfl) w HX (Nat.le_refl _) ?_; intro w2 HX2 HG2)
    exact bodyPost_ret (results_cellSlot rfl _ w2 w.heap.size 69 _ (0, 0) _ rfl HG2.out Try.underlying69 rfl (by kernel_rfl)) rfl ⟨rfl, HX2⟩
  by_cases hv : inV v
  · rcases level_cases l with hl | ⟨k, rfl, hk1, hk4⟩
    · exact bad 15 rfl (Lib.hid (shRes_2 hv hl)) (stRes_2 hv hl)
    · obtain ⟨n, rfl, h1, h2⟩ := inV_nat hv
      rw [stRes_3 hv ⟨hk1, hk4⟩]
      have HS := Lib.hid (shRes_3 hv ⟨hk1, hk4⟩)
      have hsh := shares_at n k h1 h2 hk1 hk4
      have hD : dataN n k ≤ 3706 := by unfold dataN; omega
      have HST : Hid (stN n k = ((blk k n : Int) - (dataN n k % blk k n : Nat), ((dataN n k % blk k n : Nat) : Int), ((dataN n k / blk k n : Nat) : Int), (chk k n : Int))) := rfl
      obtain ⟨D, hDD⟩ : ∃ D, D = dataN n k := ⟨_, rfl⟩
      obtain ⟨B, hBB⟩ : ∃ B, B = blk k n := ⟨_, rfl⟩
      obtain ⟨C, hCC⟩ : ∃ C, C = chk k n := ⟨_, rfl⟩
      rw [← hDD, ← hBB, ← hCC] at HS HST
      rw [← hDD] at hD
      rw [← hBB, ← hCC] at hsh
      have hB1 : 1 ≤ B := hsh.2.2.1
      have hB2 : B ≤ 81 := hsh.2.2.2.1
      have hC1 : C ≤ 30 := hsh.2.1
      have hlt : D % B < B := Nat.mod_lt _ (by omega)
      have hdl : D / B ≤ D := Nat.div_le_self _ _
      have hB0 : ¬ ((B : Int) = 0) := by omega
      have HM : Hid ((D : Int) % (B : Int) = ((D % B : Nat) : Int)) := (Int.natCast_emod _ _).symm
      have HQ : Hid ((D : Int) / (B : Int) = ((D / B : Nat) : Int)) := (Int.natCast_ediv _ _).symm
      clear hsh hDD hBB hCC bad hv
      go_enter Try.func44, Try.ntmps44
      go_wp2_with fail
      refine (shares_any _ _ _).mono ?_
      rw [HS.out]
      rintro e w1 ⟨rfl, HE⟩
      simp only [four]
      have HG := Lib.hid HE.new
      have HX : Ext w w1 := (Ext.alloc _ _).trans HE
      clear HE
      go_wp2_with ((with_reducible show wpList _ _ _ (⟨none, .store 69 _ _, _, _, _, _⟩ :: _) _ _); refine wpList_storeOwn rfl 69 _ _ rfl w.heap.size _ rfl rfl 69 _ HG.out (by kernel_rfl) (by kernel_rfl) (by kernel_rfl) w HX (Nat.le_refl _) ?_; intro w2 HX2 HG2)
      refine bodyPost_ret (results_cellSlot rfl _ w2 w.heap.size 69 _ (0, 0) _ rfl HG2.out Try.underlying69 rfl (by kernel_rfl)) rfl ⟨?_, HX2⟩
      rw [HST.out, HQ.out, HM.out, wrap_nat (D / B) (by omega)]
      rfl
  · exact bad 14 rfl (Lib.hid (shRes_1 hv)) (stRes_1 hv)

theorem four_set {w : World} {g : Nat} {x0 x1 x2 x3 : Value} {t : TypeId} (h : w.heap[g]? = some (.cells #[x0, x1, x2, x3] t (0, 0))) (v0 v1 v2 v3 : Value) :
    ((((w.setCell ⟨g, 0, none⟩ v0).setCell ⟨g, 1, none⟩ v1).setCell ⟨g, 2, none⟩ v2).setCell ⟨g, 3, none⟩ v3).heap[g]? = some (.cells #[v0, v1, v2, v3] t (0, 0)) := by
  have h0 := heap_setCell_same w g 0 _ t v0 h
  have h1 := heap_setCell_same _ g 1 _ t v1 h0
  have h2 := heap_setCell_same _ g 2 _ t v2 h1
  have h3 := heap_setCell_same _ g 3 _ t v3 h2
  simpa using h3
def rtRes (v l : Int) : Int := if inV v then if l < 1 ∨ 4 < l then 15 else 0 else 14
set_option maxHeartbeats 400000 in
theorem right_any (v l : Int) (w : World) : Calls Try.prog 86 #[.int .i64 v, .int .i64 l] w fun e w' => e = .returned (.int .i64 (rtRes v l)) ∧ w = w' := by
  by_cases hv : inV v
  · rcases level_cases l with hl | ⟨k, rfl, hk1, hk4⟩
    · rw [show rtRes v l = 15 from by unfold rtRes; rw [if_pos hv, if_pos hl]]
      obtain ⟨h1, h2⟩ := hv
      rcases Int.lt_or_le l 1 with h0 | h0
      all_goals
        first | (have h7 : 4 < l := by omega) | skip
        clear hl
        go_enter Try.func86, Try.ntmps86
        go_wp2_with fail
        go_ret
        exact ⟨rfl, rfl⟩
    · rw [show rtRes v k = 0 from by unfold rtRes; rw [if_pos hv, if_neg (by omega)]]
      obtain ⟨h1, h2⟩ := hv
      go_enter Try.func86, Try.ntmps86
      go_wp2_with fail
      go_ret
      exact ⟨rfl, rfl⟩
  · rw [show rtRes v l = 14 from by unfold rtRes; rw [if_neg hv]]
    rcases not_inV hv with h1 | ⟨h1, h2⟩
    all_goals
      clear hv
      go_enter Try.func86, Try.ntmps86
      go_wp2_with fail
      go_ret
      exact ⟨rfl, rfl⟩

set_option maxRecDepth 20000 in
set_option maxHeartbeats 1600000 in
theorem rstructure_any (v l : Int) (w : World) : Calls Try.prog 75 #[.int .i64 v, .int .i64 l] w fun e w' => e = .returned (.tuple #[blkV (stRes v l).1, .int .i64 (stRes v l).2]) ∧ Ext w w' := by
  have bad : ∀ E : Int, (E == 0) = false → Hid (rtRes v l = E) → stRes v l = ((0, 0, 0, 0), E) → Calls Try.prog 75 #[.int .i64 v, .int .i64 l] w fun e w' => e = .returned (.tuple #[blkV (stRes v l).1, .int .i64 (stRes v l).2]) ∧ Ext w w' := by
    intro E hE HS hst
    rw [hst]
    clear hst
    have hE2 : (E != 0) = true := by rw [bne, hE]; rfl
    go_enter Try.func75, Try.ntmps75
    go_wp2_with fail
    refine (right_any _ _ _).mono ?_
    rw [HS.out]
    rintro e w1 ⟨rfl, rfl⟩
    have HG := Lib.hid (heap_alloc_new w (.cells #[.int .i64 0, .int .i64 0, .int .i64 0, .int .i64 0] 69))
    go_wp2_with ((with_reducible show wpList _ _ _ (⟨none, .store 69 _ _, _, _, _, _⟩ :: _) _ _); refine wpList_storeOwn rfl 69 _ _ rfl w.heap.size _ rfl rfl 69 _ HG.out (by kernel_rfl) (by kernel_rfl) (by kernel_rfl) w (Ext.alloc _ _) (Nat.le_refl _) ?_; intro w2 HX2 HG2)
    exact bodyPost_ret (results_cellSlot rfl _ w2 w.heap.size 69 _ (0, 0) _ rfl HG2.out Try.underlying69 rfl (by kernel_rfl)) rfl ⟨rfl, HX2⟩
  by_cases hv : inV v
  · rcases level_cases l with hl | ⟨k, rfl, hk1, hk4⟩
    · exact bad 15 rfl (by show rtRes v l = 15; unfold rtRes; rw [if_pos hv, if_pos hl]) (stRes_2 hv hl)
    · obtain ⟨n, rfl, h1, h2⟩ := inV_nat hv
      have HRT : Hid (rtRes n k = 0) := by show rtRes n k = 0; unfold rtRes; rw [if_pos hv, if_neg (by omega)]
      rw [stRes_3 hv ⟨hk1, hk4⟩]
      have hsh := shares_at n k h1 h2 hk1 hk4
      have hD : dataN n k ≤ 3706 := by unfold dataN; omega
      have HST : Hid (stN n k = ((blk k n : Int) - (dataN n k % blk k n : Nat), ((dataN n k % blk k n : Nat) : Int), ((dataN n k / blk k n : Nat) : Int), (chk k n : Int))) := rfl
      have hw : wrap64 ((blk k n : Int) * (chk k n : Int)) = ((chk k n * blk k n : Nat) : Int) := by
        rw [Int.mul_comm, Int.natCast_mul]; exact IntWalk.wrap64_in _ ⟨by rw [← Int.natCast_mul]; omega, by rw [← Int.natCast_mul]; omega⟩
      have hd : (wordsN n : Int) - ((chk k n * blk k n : Nat) : Int) = (dataN n k : Int) := by unfold dataN; omega
      have hd2 : wrap64 (dataN n k : Int) = (dataN n k : Int) := by rw [← hd]; exact IntWalk.wrap64_in _ ⟨by omega, by omega⟩
      have HBL := Lib.hid (blocksL_at k n h1 h2)
      have HCL := Lib.hid (checksL_at k n h1 h2)
      have HWL := Lib.hid (wordsL_at n h1 h2)
      obtain ⟨D, hDD⟩ : ∃ D, D = dataN n k := ⟨_, rfl⟩
      obtain ⟨B, hBB⟩ : ∃ B, B = blk k n := ⟨_, rfl⟩
      obtain ⟨C, hCC⟩ : ∃ C, C = chk k n := ⟨_, rfl⟩
      rw [← hDD, ← hBB, ← hCC] at HST
      rw [← hDD, ← hBB, ← hCC] at hd
      rw [← hDD] at hD hd2
      rw [← hBB, ← hCC] at hsh hw
      rw [← hBB] at HBL
      rw [← hCC] at HCL
      have HW := Lib.hid hw
      have HD := Lib.hid hd
      have HD2 := Lib.hid hd2
      have hB1 : 1 ≤ B := hsh.2.2.1
      have hB2 : B ≤ 81 := hsh.2.2.2.1
      have hC1 : C ≤ 30 := hsh.2.1
      have hlt : D % B < B := Nat.mod_lt _ (by omega)
      have hdl : D / B ≤ D := Nat.div_le_self _ _
      have hB0 : ¬ ((B : Int) = 0) := by omega
      have HM : Hid ((D : Int) % (B : Int) = ((D % B : Nat) : Int)) := (Int.natCast_emod _ _).symm
      have HQ : Hid ((D : Int) / (B : Int) = ((D / B : Nat) : Int)) := (Int.natCast_ediv _ _).symm
      clear hsh hDD hBB hCC bad hv hw hd hd2
      have hn0 : (0 : Int) ≤ (n : Int) - 1 := by omega
      have hn1 : ((n : Int) - 1).toNat = n - 1 := by omega
      have hn2 : (n : Int) - 1 < 40 := by omega
      have HLB : Hid ((blocksL k).length = 40) := by show _ = _; simp [blocksL]
      have HLC : Hid ((checksL k).length = 40) := by show _ = _; simp [checksL]
      go_enter Try.func75, Try.ntmps75
      go_wp2_with fail
      refine (right_any _ _ _).mono ?_
      rw [HRT.out]
      rintro e w1 ⟨rfl, rfl⟩
      have HG := Lib.hid (heap_alloc_new w (.cells #[.int .i64 0, .int .i64 0, .int .i64 0, .int .i64 0] 69))
      obtain ⟨W0, hW0⟩ : ∃ W0, W0 = w.alloc (.cells #[.int .i64 0, .int .i64 0, .int .i64 0, .int .i64 0] 69) := ⟨_, rfl⟩
      have HW0 : Ext w W0 := by rw [hW0]; exact Ext.alloc _ _
      rw [← hW0] at HG ⊢
      clear hW0
      go_upto_region 4 with fail
      have hwr : IntKind.i64.wrap ((n : Int) - 1) = (n : Int) - 1 := IntWalk.i64_in _ (by omega)
      go_cut [7, 8] (fun p q wx => p = .int .i64 B ∧ q = .int .i64 C ∧ Ext W0 wx)
      case first =>
        go_region_with (first
          | (go_at_call 87; refine (blocks_any k _ hk1 hk4).mono ?_; intro e w3 hret3; obtain ⟨b3, c3, rfl, h3, _, _, _, hx3⟩ := hret3.ints; clear hret3; obtain ⟨a3, rfl, hcell3⟩ := h3.at HBL.out; rw [HLB.out]; (first | (have hcell4b := hx3.cell hcell4) | skip))
          | (go_at_call 88; refine (checks_any k _ hk1 hk4).mono ?_; intro e w4 hret4; obtain ⟨b4, c4, rfl, h4, _, _, _, hx4⟩ := hret4.ints; clear hret4; obtain ⟨a4, rfl, hcell4⟩ := h4.at HCL.out; rw [HLC.out]; (first | (have hcell3b := hx4.cell hcell3) | skip)))
        all_goals (go_wp2_with fail; go_meet; exact ⟨rfl, rfl, by first | exact (Ext.drew _).trans (hx3.trans hx4) | exact (Ext.drew _).trans (hx4.trans hx3)⟩)
      case rest =>
        obtain ⟨rfl, rfl, HX⟩ := hcut
        clear HBL HCL HLB HLC
        replace HG := Lib.hid (HX.old HG.out)
        replace HX := HW0.trans HX
        clear HW0
        go_wp2_with fail
        refine (vwords_any _).mono ?_
        intro e w1 hret
        obtain ⟨ao, cap, rfl, hr, hc, hm, hn, hx⟩ := hret.ints
        clear hret
        rw [show wordsL.length = 40 from rfl]
        obtain ⟨a, rfl, hcell⟩ := hr.at HWL.out
        replace HG := Lib.hid (hx.old HG.out)
        replace HX := HX.trans hx
        clear hr hx
        go_wp2_with fail
        rw [HW.out, HD.out, HD2.out]
        have z0 : w1.cell? ⟨w.heap.size, 0, none⟩ = some (.int .i64 0) := by rw [cell_of_row _ _ _ _ _ _ HG.out]; rfl
        have z1 : w1.cell? ⟨w.heap.size, 1, none⟩ = some (.int .i64 0) := by rw [cell_of_row _ _ _ _ _ _ HG.out]; rfl
        have z2 : w1.cell? ⟨w.heap.size, 2, none⟩ = some (.int .i64 0) := by rw [cell_of_row _ _ _ _ _ _ HG.out]; rfl
        have z3 : w1.cell? ⟨w.heap.size, 3, none⟩ = some (.int .i64 0) := by rw [cell_of_row _ _ _ _ _ _ HG.out]; rfl
        have f0 : ∀ o, w1.frozen? ⟨w.heap.size, o, none⟩ = false := fun o => frozen_of_row _ _ o _ _ HG.out
        clear hcell
        go_region
        have HG4 := Lib.hid (four_set HG.out (.int .i64 ((B : Int) - (D : Int) % (B : Int))) (.int .i64 ((D : Int) % (B : Int))) (.int .i64 (wrap64 ((D : Int) / (B : Int)))) (.int .i64 (C : Int)))
        have HX4 : Ext w _ := ((((HX.set (Nat.le_refl _) 0 (.int .i64 ((B : Int) - (D : Int) % (B : Int)))).set (Nat.le_refl _) 1 (.int .i64 ((D : Int) % (B : Int)))).set (Nat.le_refl _) 2 (.int .i64 (wrap64 ((D : Int) / (B : Int))))).set (Nat.le_refl _) 3 (.int .i64 (C : Int)))
        clear HX HG z0 z1 z2 z3 f0
        obtain ⟨w2, hw2⟩ : ∃ w2 : World, w2 = (((w1.setCell ⟨w.heap.size, 0, none⟩ (.int .i64 ((B : Int) - (D : Int) % (B : Int)))).setCell ⟨w.heap.size, 1, none⟩ (.int .i64 ((D : Int) % (B : Int)))).setCell ⟨w.heap.size, 2, none⟩ (.int .i64 (wrap64 ((D : Int) / (B : Int))))).setCell ⟨w.heap.size, 3, none⟩ (.int .i64 (C : Int)) := ⟨_, rfl⟩
        rw [← hw2] at HG4 HX4 ⊢
        clear hw2
        go_wp2_with fail
        refine bodyPost_ret (results_cellSlot rfl _ _ w.heap.size 69 _ (0, 0) _ rfl HG4.out Try.underlying69 rfl (by kernel_rfl)) rfl ⟨?_, HX4.trans (Ext.drew _)⟩
        rw [HST.out, HQ.out, HM.out, wrap_nat (D / B) (by omega)]
        rfl
  · exact bad 14 rfl (by show rtRes v l = 14; unfold rtRes; rw [if_neg hv]) (stRes_1 hv)


theorem cp_st (B D : Nat) : wrap64 (wrap64 ((B : Int) * ((D / B : Nat) : Int)) + ((D % B : Nat) : Int)) = wrap64 (D : Int) := by
  have h := Nat.div_add_mod D B
  generalize D / B = q at h ⊢
  generalize D % B = r at h ⊢
  subst h
  rw [Int.natCast_add, Int.natCast_mul]
  unfold wrap64
  omega

set_option maxRecDepth 20000 in
set_option maxHeartbeats 800000 in
theorem rcapacity_any (v l : Int) (w : World) : Calls Try.prog 46 #[.int .i64 v, .int .i64 l] w fun e w' => e = .returned (two (cpRes v l)) ∧ Ext w w' := by
  have bad : ∀ E : Int, Hid (stRes v l = ((0, 0, 0, 0), E)) → cpRes v l = (0, E) → Calls Try.prog 46 #[.int .i64 v, .int .i64 l] w fun e w' => e = .returned (two (cpRes v l)) ∧ Ext w w' := by
    intro E HS hst
    rw [hst]
    clear hst
    go_enter Try.func46, Try.ntmps46
    go_wp2_with fail
    refine (rstructure_any _ _ _).mono ?_
    rw [HS.out]
    rintro e w1 ⟨rfl, HE⟩
    simp only [blkV]
    go_wp2_with fail
    go_ret2
    exact ⟨rfl, HE.trans (Ext.alloc _ _)⟩
  by_cases hv : inV v
  · rcases level_cases l with hl | ⟨k, rfl, hk1, hk4⟩
    · exact bad 15 (stRes_2 hv hl) (cpRes_2 hv hl)
    · obtain ⟨n, rfl, h1, h2⟩ := inV_nat hv
      rw [cpRes_3 hv ⟨hk1, hk4⟩]
      have HS : Hid (stRes n k = (((blk k n : Int) - (dataN n k % blk k n : Nat), ((dataN n k % blk k n : Nat) : Int), ((dataN n k / blk k n : Nat) : Int), (chk k n : Int)), 0)) := stRes_3 hv ⟨hk1, hk4⟩
      have hsh := shares_at n k h1 h2 hk1 hk4
      have hD : dataN n k ≤ 3706 := by unfold dataN; omega
      obtain ⟨D, hDD⟩ : ∃ D, D = dataN n k := ⟨_, rfl⟩
      obtain ⟨B, hBB⟩ : ∃ B, B = blk k n := ⟨_, rfl⟩
      obtain ⟨C, hCC⟩ : ∃ C, C = chk k n := ⟨_, rfl⟩
      rw [← hDD, ← hBB, ← hCC] at HS
      rw [← hBB, ← hCC] at hsh
      rw [← hDD] at hD ⊢
      have hB1 : 1 ≤ B := hsh.2.2.1
      have hB2 : B ≤ 81 := hsh.2.2.2.1
      have hlt : D % B < B := Nat.mod_lt _ (by omega)
      have hdl : D / B ≤ D := Nat.div_le_self _ _
      have HF := Lib.hid (cp_st B D)
      obtain ⟨q, hq⟩ : ∃ q, q = D / B := ⟨_, rfl⟩
      obtain ⟨r, hr⟩ : ∃ r, r = D % B := ⟨_, rfl⟩
      rw [← hr, ← hq] at HS HF
      rw [← hq] at hdl
      rw [← hr] at hlt
      clear hsh hDD hBB hCC bad hv hq hr
      go_enter Try.func46, Try.ntmps46
      go_wp2_with fail
      refine (rstructure_any _ _ _).mono ?_
      rw [HS.out]
      rintro e w1 ⟨rfl, HE⟩
      simp only [blkV]
      go_wp2_with fail
      go_ret2
      refine ⟨?_, HE.trans (Ext.alloc _ _)⟩
      rw [HF.out, wrap_nat D (by omega)]
      rfl
  · exact bad 14 (stRes_1 hv) (cpRes_1 hv)

theorem ex_size : szRes 1 = (21, 0) := by decide +kernel
theorem ex_al : alRes 7 = ([6, 22, 38], 0) := by decide +kernel
theorem ex_cw : cwRes 2 = (44, 7, 0) := by decide +kernel
theorem ex_st : stRes 5 3 = ((2, 2, 15, 18), 0) := by decide +kernel
theorem ex_cp : cpRes 5 3 = (62, 0) := by decide +kernel

set_option maxRecDepth 20000 in
set_option maxHeartbeats 800000 in
theorem alive_any (w : World) : Calls Try.prog 14 #[] w fun e w' => e = .returned (.bool true) ∧ Ext w w' := by
  go_enter Try.func14, Try.ntmps14
  go_wp2_with fail
  refine (size_any _ _).mono ?_
  rw [ex_size]
  rintro e w' ⟨rfl, rfl⟩
  simp only [two]
  go_wp2_with fail
  refine (aligns_any _ _).mono ?_
  rw [ex_al]
  intro e w1 hret
  obtain ⟨b1, c1, rfl, hr1, hc1, hm1, hn1, hx1⟩ := hret.ints
  clear hret
  go_wp2_with fail
  refine (codewords_any _ _).mono ?_
  rw [ex_cw]
  rintro e w2 ⟨rfl, hx2⟩
  simp only [three]
  replace hr1 := hr1.ext hx2
  go_wp2_with fail
  refine (structure_any _ _ _).mono ?_
  rw [ex_st]
  rintro e w3 ⟨rfl, hx3⟩
  simp only [blkV]
  replace hr1 := hr1.ext hx3
  go_wp2_with fail
  refine (capacity_any _ _ _).mono ?_
  rw [ex_cp]
  rintro e w4 ⟨rfl, hx4⟩
  simp only [two]
  replace hr1 := hr1.ext ((Ext.alloc _ _).trans hx4)
  have hb := hx4.new
  have z0 : w4.cell? ⟨w3.heap.size, 0, none⟩ = some (.int .i64 2) := by rw [cell_of_row _ _ _ _ _ _ hb]; rfl
  have z1 : w4.cell? ⟨w3.heap.size, 1, none⟩ = some (.int .i64 2) := by rw [cell_of_row _ _ _ _ _ _ hb]; rfl
  have z2 : w4.cell? ⟨w3.heap.size, 2, none⟩ = some (.int .i64 15) := by rw [cell_of_row _ _ _ _ _ _ hb]; rfl
  have z3 : w4.cell? ⟨w3.heap.size, 3, none⟩ = some (.int .i64 18) := by rw [cell_of_row _ _ _ _ _ _ hb]; rfl
  clear hb
  go_wp2_with fail
  refine (ints_any _ _ _ _ _ _ [6, 22, 38] [6, 22, 38] _ rfl rfl (by decide) (hr1.ext (Ext.alloc _ _)) (Row.lit w4 (ints [6, 22, 38]) 3)).mono ?_
  rintro e w5 ⟨rfl, hx5⟩
  rw [show ([6, 22, 38] == ([6, 22, 38] : List Int)) = true from rfl]
  have hx45 : Ext w4 w5 := (Ext.alloc _ _).trans hx5
  replace z0 := hx45.cell z0
  replace z1 := hx45.cell z1
  replace z2 := hx45.cell z2
  replace z3 := hx45.cell z3
  go_wp2_with fail
  go_ret
  exact ⟨rfl, hx1.trans (hx2.trans (hx3.trans ((Ext.alloc _ _).trans (hx4.trans hx45))))⟩

end Go.Proofs.Ythebfpolijajgaa
