/-
  Contracts of the reference's Capacity, and of the examples.
  Conditions: none.
-/
import Derived.Test.YtnmmpgjcikhnhaaVerF
namespace Go.Proofs.Ytnmmpgjcikhnhaa
open Go.RowKit Go.Bs Go.Qrv

theorem cp_st (B D : Nat) : wrap64 (wrap64 ((B : Int) * ((D / B : Nat) : Int)) + ((D % B : Nat) : Int)) = wrap64 (D : Int) := by
  have h := Nat.div_add_mod D B
  generalize D / B = q at h ⊢
  generalize D % B = r at h ⊢
  subst h
  rw [Int.natCast_add, Int.natCast_mul]
  unfold wrap64
  omega

set_option maxRecDepth 20000 in
set_option maxHeartbeats 800000 in
theorem rcapacity_any (v l : Int) (w : World) : Calls Try.prog 19 #[.int .i64 v, .int .i64 l] w fun e w' => e = .returned (two (cpRes v l)) ∧ Ext w w' := by
  have bad : ∀ E : Int, Hid (stRes v l = ((0, 0, 0, 0), E)) → cpRes v l = (0, E) → Calls Try.prog 19 #[.int .i64 v, .int .i64 l] w fun e w' => e = .returned (two (cpRes v l)) ∧ Ext w w' := by
    intro E HS hst
    rw [hst]
    clear hst
    go_enter Try.func19, Try.ntmps19
    go_wp2_with fail
    refine (rstructure_any _ _ _).mono ?_
    rw [HS.out]
    rintro e w1 ⟨rfl, HE⟩
    simp only [blkV]
    go_wp2_with fail
    go_ret2
    exact ⟨rfl, HE.trans (Ext.alloc _ _)⟩
  by_cases hv : inV v
  · rcases level_cases l with hl | ⟨k, rfl, hk1, hk4⟩
    · exact bad 15 (stRes_2 hv hl) (cpRes_2 hv hl)
    · obtain ⟨n, rfl, h1, h2⟩ := inV_nat hv
      rw [cpRes_3 hv ⟨hk1, hk4⟩]
      have HS : Hid (stRes n k = (((blk k n : Int) - (dataN n k % blk k n : Nat), ((dataN n k % blk k n : Nat) : Int), ((dataN n k / blk k n : Nat) : Int), (chk k n : Int)), 0)) := stRes_3 hv ⟨hk1, hk4⟩
      have hsh := shares_at n k h1 h2 hk1 hk4
      have hD : dataN n k ≤ 3706 := by unfold dataN; omega
      obtain ⟨D, hDD⟩ : ∃ D, D = dataN n k := ⟨_, rfl⟩
      obtain ⟨B, hBB⟩ : ∃ B, B = blk k n := ⟨_, rfl⟩
      obtain ⟨C, hCC⟩ : ∃ C, C = chk k n := ⟨_, rfl⟩
      rw [← hDD, ← hBB, ← hCC] at HS
      rw [← hBB, ← hCC] at hsh
      rw [← hDD] at hD ⊢
      have hB1 : 1 ≤ B := hsh.2.2.1
      have hB2 : B ≤ 81 := hsh.2.2.2.1
      have hlt : D % B < B := Nat.mod_lt _ (by omega)
      have hdl : D / B ≤ D := Nat.div_le_self _ _
      have HF := Lib.hid (cp_st B D)
      obtain ⟨q, hq⟩ : ∃ q, q = D / B := ⟨_, rfl⟩
      obtain ⟨r, hr⟩ : ∃ r, r = D % B := ⟨_, rfl⟩
      rw [← hr, ← hq] at HS HF
      rw [← hq] at hdl
      rw [← hr] at hlt
      clear hsh hDD hBB hCC bad hv hq hr
      go_enter Try.func19, Try.ntmps19
      go_wp2_with fail
      refine (rstructure_any _ _ _).mono ?_
      rw [HS.out]
      rintro e w1 ⟨rfl, HE⟩
      simp only [blkV]
      go_wp2_with fail
      go_ret2
      refine ⟨?_, HE.trans (Ext.alloc _ _)⟩
      rw [HF.out, wrap_nat D (by omega)]
      rfl
  · exact bad 14 (stRes_1 hv) (cpRes_1 hv)

theorem ex_size : szRes 1 = (21, 0) := by decide +kernel
theorem ex_al : alRes 7 = ([6, 22, 38], 0) := by decide +kernel
theorem ex_cw : cwRes 2 = (44, 7, 0) := by decide +kernel
theorem ex_st : stRes 5 3 = ((2, 2, 15, 18), 0) := by decide +kernel
theorem ex_cp : cpRes 5 3 = (62, 0) := by decide +kernel

set_option maxRecDepth 20000 in
set_option maxHeartbeats 800000 in
theorem alive_any (w : World) : Calls Try.prog 15 #[] w fun e w' => e = .returned (.bool true) ∧ Ext w w' := by
  go_enter Try.func15, Try.ntmps15
  go_wp2_with fail
  refine (size_any _ _).mono ?_
  rw [ex_size]
  rintro e w' ⟨rfl, rfl⟩
  simp only [two]
  go_wp2_with fail
  refine (aligns_any _ _).mono ?_
  rw [ex_al]
  intro e w1 hret
  obtain ⟨b1, c1, rfl, hr1, hc1, hm1, hn1, hx1⟩ := hret.ints
  clear hret
  go_wp2_with fail
  refine (codewords_any _ _).mono ?_
  rw [ex_cw]
  rintro e w2 ⟨rfl, hx2⟩
  simp only [three]
  replace hr1 := hr1.ext hx2
  go_wp2_with fail
  refine (structure_any _ _ _).mono ?_
  rw [ex_st]
  rintro e w3 ⟨rfl, hx3⟩
  simp only [blkV]
  replace hr1 := hr1.ext hx3
  go_wp2_with fail
  refine (capacity_any _ _ _).mono ?_
  rw [ex_cp]
  rintro e w4 ⟨rfl, hx4⟩
  simp only [two]
  replace hr1 := hr1.ext ((Ext.alloc _ _).trans hx4)
  have hb := hx4.new
  have z0 : w4.cell? ⟨w3.heap.size, 0, none⟩ = some (.int .i64 2) := by rw [cell_of_row _ _ _ _ _ _ hb]; rfl
  have z1 : w4.cell? ⟨w3.heap.size, 1, none⟩ = some (.int .i64 2) := by rw [cell_of_row _ _ _ _ _ _ hb]; rfl
  have z2 : w4.cell? ⟨w3.heap.size, 2, none⟩ = some (.int .i64 15) := by rw [cell_of_row _ _ _ _ _ _ hb]; rfl
  have z3 : w4.cell? ⟨w3.heap.size, 3, none⟩ = some (.int .i64 18) := by rw [cell_of_row _ _ _ _ _ _ hb]; rfl
  clear hb
  go_wp2_with fail
  refine (ints_any _ _ _ _ _ _ [6, 22, 38] [6, 22, 38] _ rfl rfl (by decide) (hr1.ext (Ext.alloc _ _)) (Row.lit w4 (ints [6, 22, 38]) 3)).mono ?_
  rintro e w5 ⟨rfl, hx5⟩
  rw [show ([6, 22, 38] == ([6, 22, 38] : List Int)) = true from rfl]
  have hx45 : Ext w4 w5 := (Ext.alloc _ _).trans hx5
  replace z0 := hx45.cell z0
  replace z1 := hx45.cell z1
  replace z2 := hx45.cell z2
  replace z3 := hx45.cell z3
  go_wp2_with fail
  go_ret
  exact ⟨rfl, hx1.trans (hx2.trans (hx3.trans ((Ext.alloc _ _).trans (hx4.trans hx45))))⟩

end Go.Proofs.Ytnmmpgjcikhnhaa
