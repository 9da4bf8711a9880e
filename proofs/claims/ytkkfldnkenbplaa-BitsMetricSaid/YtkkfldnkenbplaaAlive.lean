/-
  The contract of barscanlaw01.alive: it returns true, in whatever world, and changes nothing that was there.
  No condition.
-/
import Derived.Test.YtkkfldnkenbplaaBitsG
namespace Go.Proofs.Ytkkfldnkenbplaa
open Go.RowKit Go.Bs

set_option maxRecDepth 20000 in
set_option maxHeartbeats 1000000 in
theorem alive_any (w : World) : Calls Try.prog 12 #[] w fun e w' => e = .returned (.bool true) ∧ Ext w w' := by
  have r1 : appRes [] 11 4 = ([true, false, true, true], 0) := by decide
  have r2 : parseRes (⟨#[49, 48, 49, 49]⟩ : ByteArray).data.toList = ([true, false, true, true], 0) := by decide
  have r3 : takeRes [true, false, true, true] 1 3 = (3, 0) := by decide
  have r4 : wordsRes [true, false, true] 2 true = ([2, 3], 0) := by decide
  have r5 : fromRes [2, 3] 2 = ([true, false, true, true], 0) := by decide
  have r6 : takeRes [true, false, true, true] 0 2 = (2, 0) := by decide
  have r7 : leftBy [true, false, true, true] 2 = [true, true] := by decide
  have r8 : bytesOf [true] (([true].length + 8 - 1) / 8) = [128] := by decide
  have R1 := Lib.hid r1; have R2 := Lib.hid r2; have R3 := Lib.hid r3; have R4 := Lib.hid r4; have R5 := Lib.hid r5; have R6 := Lib.hid r6; have R7 := Lib.hid r7; have R8 := Lib.hid r8
  clear r1 r2 r3 r4 r5 r6 r7 r8
  go_enter Try.func12, Try.ntmps12
  go_wp2_with fail
  refine (append_any none 0 0 [] 11 4 _ rfl (by decide) (Row.nil _ _)).mono ?_
  rw [R1.out]
  intro e w1 hret
  obtain ⟨b1, c1, rfl, hr1, hc1, hm1, hn1, hx1⟩ := hret.bools
  clear hret
  go_wp2_with fail
  refine (parse_any _ _ (by decide)).mono ?_
  rw [R2.out]
  intro e w2 hret
  obtain ⟨b2, c2, rfl, hr2, hc2, hm2, hn2, hx2⟩ := hret.bools
  clear hret
  replace hr1 := hr1.ext hx2
  go_wp2_with fail
  refine (take_any _ _ _ [true, false, true, true] 1 3 _ rfl hc1 hm1 hr1).mono ?_
  rw [R3.out]
  rintro e w' ⟨rfl, rfl⟩
  simp only [two]
  go_wp2_with fail
  refine (words_any _ _ _ [true, false, true] 2 true _ rfl (by decide) (by decide) (Row.lit w2 (bools [true, false, true]) 4)).mono ?_
  rw [R4.out]
  intro e w3 hret
  obtain ⟨b3, c3, rfl, hr3, hc3, hm3, hn3, hx3'⟩ := hret.ints
  clear hret
  have hx3 : Ext w2 w3 := (Ext.alloc _ _).trans hx3'
  clear hx3'
  replace hr1 := hr1.ext hx3
  replace hr2 := hr2.ext hx3
  go_wp2_with fail
  refine (fromWords_any _ _ _ [2, 3] 2 _ rfl (by decide) (Row.lit w3 (ints [2, 3]) 3)).mono ?_
  rw [R5.out]
  intro e w4 hret
  obtain ⟨b4, c4, rfl, hr4, hc4, hm4, hn4, hx4'⟩ := hret.bools
  clear hret
  have hx4 : Ext w3 w4 := (Ext.alloc _ _).trans hx4'
  clear hx4'
  replace hr1 := hr1.ext hx4
  replace hr2 := hr2.ext hx4
  replace hr3 := hr3.ext hx4
  go_wp2_with fail
  refine (newReader_any _ _ _ [true, false, true, true] _ rfl (by decide) hn2 hr2).mono ?_
  rintro e w5 ⟨g, rfl, hrd, hg, hx5⟩
  go_wp2_with fail
  refine (rdtake_any _ g _ 2 _ hrd).mono ?_
  rw [R6.out, R7.out]
  rintro e w6 ⟨rfl, hrd6, hg6⟩
  simp only [two]
  have hx6 : Ext w4 w6 := Below.grown hx5 hg6 hx5.size (fun k hk => by cases hk; exact hg)
  clear hg6 hx5 hrd
  replace hr1 := hr1.ext hx6
  replace hr2 := hr2.ext hx6
  replace hr3 := hr3.ext hx6
  replace hr4 := hr4.ext hx6
  go_wp2_with fail
  refine (bytes_any _ _ _ [true] _ rfl (by decide) (Row.lit w6 (bools [true]) 4)).mono ?_
  rw [R8.out]
  intro e w7 hret
  obtain ⟨b7, c7, rfl, hr7, hc7, hm7, hn7, hx7'⟩ := hret.byts
  clear hret
  have hx7 : Ext w6 w7 := (Ext.alloc _ _).trans hx7'
  clear hx7'
  replace hr1 := hr1.ext hx7
  replace hr2 := hr2.ext hx7
  replace hr3 := hr3.ext hx7
  replace hr4 := hr4.ext hx7
  replace hrd6 := hrd6.ext hx7
  obtain ⟨a7, rfl, hcell⟩ := hr7.at (i := 0) (v := .int .u8 128) rfl
  go_wp2_with fail
  refine (same_any _ _ _ _ _ _ [true, false, true, true] [true, false, true, true] _ rfl rfl (by decide) hr1 hr2).mono ?_
  rintro e w8 ⟨rfl, hx8⟩
  rw [show ([true, false, true, true] == [true, false, true, true]) = true from rfl]
  replace hr1 := hr1.ext hx8
  replace hr2 := hr2.ext hx8
  replace hr3 := hr3.ext hx8
  replace hr4 := hr4.ext hx8
  replace hrd6 := hrd6.ext hx8
  replace hcell := hx8.cell hcell
  go_wp2_with fail
  refine (same_any _ _ _ _ _ _ [true, false, true, true] [true, false, true, true] _ rfl rfl (by decide) hr4 hr2).mono ?_
  rintro e w9 ⟨rfl, hx9⟩
  rw [show ([true, false, true, true] == [true, false, true, true]) = true from rfl]
  replace hr1 := hr1.ext hx9
  replace hr3 := hr3.ext hx9
  replace hrd6 := hrd6.ext hx9
  replace hcell := hx9.cell hcell
  go_wp2_with fail
  refine (ints_any _ _ _ _ _ _ [2, 3] [2, 3] _ rfl rfl (by decide) (hr3.ext (Ext.alloc _ _)) (Row.lit w9 (ints [2, 3]) 3)).mono ?_
  rintro e w10 ⟨rfl, hx10'⟩
  rw [show ([2, 3] == ([2, 3] : List Int)) = true from rfl]
  have hx10 : Ext w9 w10 := (Ext.alloc _ _).trans hx10'
  clear hx10'
  replace hr1 := hr1.ext hx10
  replace hrd6 := hrd6.ext hx10
  replace hcell := hx10.cell hcell
  go_wp2_with fail
  refine (left_any _ g _ _ hrd6).mono ?_
  rintro e w' ⟨rfl, rfl⟩
  have hcell0 : w10.cell? a7 = some (.int .u8 128) := hcell
  clear hcell
  go_wp2_with fail
  refine (format_any _ _ _ [true, false, true, true] _ rfl (by decide) hr1).mono ?_
  rw [show fmtBits [true, false, true, true] = [49, 48, 49, 49] from rfl]
  rintro e w11 ⟨rfl, hx11⟩
  replace hr1 := hr1.ext hx11
  go_wp2_with fail
  refine (weight_any _ _ _ [true, false, true, true] _ rfl (by decide) hr1).mono ?_
  rw [show cnt [true, false, true, true] = 3 from rfl]
  rintro e w' ⟨rfl, rfl⟩
  go_wp2_with fail
  go_ret
  exact ⟨rfl, hx1.trans (hx2.trans (hx3.trans (hx4.trans (hx6.trans (hx7.trans (hx8.trans (hx9.trans (hx10.trans hx11))))))))⟩

end Go.Proofs.Ytkkfldnkenbplaa
