/-
  Contracts of the reference's Capacity, and of the examples.
  Conditions: none.
-/
import Derived.Test.YtbfcgggcdmafoaaVerF
namespace Go.Proofs.Ytbfcgggcdmafoaa
open Go.RowKit Go.Bs Go.Qrv

theorem cp_st (B D : Nat) : wrap64 (wrap64 ((B : Int) * ((D / B : Nat) : Int)) + ((D % B : Nat) : Int)) = wrap64 (D : Int) := by
  have h := Nat.div_add_mod D B
  generalize D / B = q at h ⊢
  generalize D % B = r at h ⊢
  subst h
  rw [Int.natCast_add, Int.natCast_mul]
  unfold wrap64
  omega

set_option maxRecDepth 20000 in
set_option maxHeartbeats 800000 in
theorem rcapacity_any (v l : Int) (w : World) : Calls Try.prog 33 #[.int .i64 v, .int .i64 l] w fun e w' => e = .returned (two (cpRes v l)) ∧ Ext w w' := by
  have bad : ∀ E : Int, Hid (stRes v l = ((0, 0, 0, 0), E)) → cpRes v l = (0, E) → Calls Try.prog 33 #[.int .i64 v, .int .i64 l] w fun e w' => e = .returned (two (cpRes v l)) ∧ Ext w w' := by
    intro E HS hst
    rw [hst]
    clear hst
    go_enter Try.func33, Try.ntmps33
    go_wp2_with fail
    refine (rstructure_any _ _ _).mono ?_
    rw [HS.out]
    rintro e w1 ⟨rfl, HE⟩
    simp only [blkV]
    go_wp2_with fail
    go_ret2
    exact ⟨rfl, HE.trans (Ext.alloc _ _)⟩
  by_cases hv : inV v
  · rcases level_cases l with hl | ⟨k, rfl, hk1, hk4⟩
    · exact bad 15 (stRes_2 hv hl) (cpRes_2 hv hl)
    · obtain ⟨n, rfl, h1, h2⟩ := inV_nat hv
      rw [cpRes_3 hv ⟨hk1, hk4⟩]
      have HS : Hid (stRes n k = (((blk k n : Int) - (dataN n k % blk k n : Nat), ((dataN n k % blk k n : Nat) : Int), ((dataN n k / blk k n : Nat) : Int), (chk k n : Int)), 0)) := stRes_3 hv ⟨hk1, hk4⟩
      have hsh := shares_at n k h1 h2 hk1 hk4
      have hD : dataN n k ≤ 3706 := by unfold dataN; omega
      obtain ⟨D, hDD⟩ : ∃ D, D = dataN n k := ⟨_, rfl⟩
      obtain ⟨B, hBB⟩ : ∃ B, B = blk k n := ⟨_, rfl⟩
      obtain ⟨C, hCC⟩ : ∃ C, C = chk k n := ⟨_, rfl⟩
      rw [← hDD, ← hBB, ← hCC] at HS
      rw [← hBB, ← hCC] at hsh
      rw [← hDD] at hD ⊢
      have hB1 : 1 ≤ B := hsh.2.2.1
      have hB2 : B ≤ 81 := hsh.2.2.2.1
      have hlt : D % B < B := Nat.mod_lt _ (by omega)
      have hdl : D / B ≤ D := Nat.div_le_self _ _
      have HF := Lib.hid (cp_st B D)
      obtain ⟨q, hq⟩ : ∃ q, q = D / B := ⟨_, rfl⟩
      obtain ⟨r, hr⟩ : ∃ r, r = D % B := ⟨_, rfl⟩
      rw [← hr, ← hq] at HS HF
      rw [← hq] at hdl
      rw [← hr] at hlt
      clear hsh hDD hBB hCC bad hv hq hr
      go_enter Try.func33, Try.ntmps33
      go_wp2_with fail
      refine (rstructure_any _ _ _).mono ?_
      rw [HS.out]
      rintro e w1 ⟨rfl, HE⟩
      simp only [blkV]
      go_wp2_with fail
      go_ret2
      refine ⟨?_, HE.trans (Ext.alloc _ _)⟩
      rw [HF.out, wrap_nat D (by omega)]
      rfl
  · exact bad 14 (stRes_1 hv) (cpRes_1 hv)

theorem ex_size : szRes 1 = (21, 0) := by decide +kernel
theorem ex_al : alRes 7 = ([6, 22, 38], 0) := by decide +kernel
theorem ex_cw : cwRes 2 = (44, 7, 0) := by decide +kernel
theorem ex_st : stRes 5 3 = ((2, 2, 15, 18), 0) := by decide +kernel
theorem ex_cp : cpRes 5 3 = (62, 0) := by decide +kernel

end Go.Proofs.Ytbfcgggcdmafoaa
