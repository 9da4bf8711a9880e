/-
  The contract of the laws' own examples (chapter 16).
  Conditions: none.
What the laws of this seat share.
  No condition.
-/
import Derived.Test.YthebfpolijajgaaBestC
import Derived.Test.YthebfpolijajgaaExA
import Derived.Test.YthebfpolijajgaaExPlain
import Derived.Test.YthebfpolijajgaaRtPlain
import Derived.Test.YthebfpolijajgaaBitsE
import Derived.Lib.SlBytesConst
import Derived.Test.YthebfpolijajgaaFrame
namespace Go.Proofs.Ythebfpolijajgaa
open Go.RowKit Go.Bs Go.Mode Go.ChangeShapes Go.WideShapes Go.ChangeAt Go.Joins

theorem rowLitX (w : World) (cs : List Value) (t : TypeId) (fr : Nat × Nat) : Row (w.alloc (.cells cs.toArray t fr)) (some ⟨w.heap.size, 0, none⟩) cs := by
  intro i v hi
  refine ⟨_, rfl, ?_⟩
  rw [show (⟨w.heap.size, 0, none⟩ : Addr).add i = ⟨w.heap.size, i, none⟩ by unfold Addr.add; split <;> simp_all]
  rw [cell_of_row _ w.heap.size i cs.toArray t fr (heap_alloc_new w _)]
  simpa using hi

def exX : List UInt8 := [48, 48, 48, 49, 48, 48, 48, 48, 48, 48, 49, 48, 48, 48, 48, 48, 48, 48, 48, 48, 49, 49, 48, 48, 48, 49, 48, 49, 48, 49, 49, 48, 48, 49, 49, 48, 48, 48, 48, 49, 49]
def exY : List UInt8 := [48, 48, 49, 48, 48, 48, 48, 48, 48, 48, 49, 48, 49, 48, 48, 49, 49, 49, 48, 48, 49, 49, 49, 48, 49, 49, 49, 48, 48, 49, 49, 49, 48, 48, 49, 48, 48, 48, 48, 49, 48]
theorem ex_enc1 : encRes [(1, [48, 49, 50, 51, 52, 53, 54, 55])] 0 = (pbits exX, 0) := by decide +kernel
theorem ex_enc2 : encRes [(2, [65, 67, 45, 52, 50])] 0 = (pbits exY, 0) := by decide +kernel
theorem ex_par1 : parseRes exX = (pbits exX, 0) := by decide +kernel
theorem ex_par2 : parseRes exY = (pbits exY, 0) := by decide +kernel
theorem ex_dec : decRes (pbits exX) 0 = ([(1, [48, 49, 50, 51, 52, 53, 54, 55])], 0) := by
  have h := ex_enc1
  unfold encRes at h
  rw [if_pos (by decide +kernel)] at h
  have h1 : ([((1 : Int), ([48, 49, 50, 51, 52, 53, 54, 55] : List UInt8))]).flatMap (encS 0) = pbits exX := congrArg Prod.fst h
  unfold decRes
  rw [if_neg (by decide), if_neg (by decide +kernel), ← h1]
  have h2 := decL_enc 0 [] (Or.inl ⟨by decide, rfl⟩) [(1, [48, 49, 50, 51, 52, 53, 54, 55])] [] (by intro p hp; simp at hp; subst hp; exact ⟨rfl, by decide +kernel, by decide +kernel⟩) (by decide)
  rw [List.append_nil] at h2
  exact h2
theorem ex_hw : bestRes [72, 69, 76, 76, 79, 32, 87, 79, 82, 76, 68] 0 = ([(2, [72, 69, 76, 76, 79, 32, 87, 79, 82, 76, 68])], 74, 0) := by
  unfold bestRes
  rw [if_neg (by decide), if_neg (by decide)]
  show (bestL 0 _, ((plan 0 _).bits : Int), (0 : Int)) = _
  rw [hw_best, hw_plan]
  rfl
theorem ex_ab : bestRes [97, 98, 99, 49, 50, 51] 0 = ([(4, [97, 98, 99, 49, 50, 51])], 60, 0) := by
  unfold bestRes
  rw [if_neg (by decide), if_neg (by decide)]
  show (bestL 0 _, ((plan 0 _).bits : Int), (0 : Int)) = _
  rw [ab_best, ab_plan]
  rfl

set_option maxRecDepth 20000 in
set_option maxHeartbeats 3200000 in
theorem example_any (w : World) : Calls Try.prog 20 #[] w fun e w' => e = .returned (.bool true) ∧ Ext w w' := by
  have kc := fun (w : World) (C : Array Value) (n c : Nat) => Lib.run_convert_bytes_const (P := Try.prog) w 22 5 C n c Try.underlying22 Try.underlying5
  go_enter Try.func20, Try.ntmps20
  go_wp2_with fail
  refine (best_any (some ⟨w.heap.size, 0, none⟩) 11 11 [72, 69, 76, 76, 79, 32, 87, 79, 82, 76, 68] 0 _ rfl (by decide) (by decide) (fun h => by cases h) (rowLitX w (byts [72, 69, 76, 76, 79, 32, 87, 79, 82, 76, 68]) 5 _)).mono ?_
  rw [ex_hw]
  rintro e w1 ⟨ao1, cap1, rfl, hs1, hc1, hm1, hx1⟩
  have HS1 := Lib.hid hs1.segs
  have HX1 := Lib.hid ((Ext.alloc w _).trans hx1)
  clear hs1 hx1
  simp only [List.length_cons, List.length_nil, Nat.zero_add]
  go_wp2_with fail
  refine (best_any (some ⟨w1.heap.size, 0, none⟩) 6 6 [97, 98, 99, 49, 50, 51] 0 _ rfl (by decide) (by decide) (fun h => by cases h) (rowLitX w1 (byts [97, 98, 99, 49, 50, 51]) 5 _)).mono ?_
  rw [ex_ab]
  rintro e w2 ⟨ao2, cap2, rfl, hs2, hc2, hm2, hx2⟩
  have hx2' := (Ext.alloc w1 _).trans hx2
  have HSB := Lib.hid hs2.segs
  have HX2 := Lib.hid (HX1.out.trans hx2')
  have HSA := Lib.hid (HS1.out.ext hx2')
  clear hs2 hx2 hx2' HS1 HX1
  simp only [List.length_cons, List.length_nil, Nat.zero_add]
  go_wp2_with fail
  refine (one_any 1 _ w2 (by decide)).mono ?_
  rintro e w3 ⟨ao3, rfl, hs3, hx3⟩
  have HS3 := Lib.hid hs3.segs
  have HX3 := Lib.hid (HX2.out.trans hx3)
  have HSA3 := Lib.hid (HSA.out.ext hx3)
  have HSB3 := Lib.hid (HSB.out.ext hx3)
  clear hs3 hx3 HX2 HSA HSB
  go_wp2_with fail
  refine (encode_any ao3 1 1 [(1, [48, 49, 50, 51, 52, 53, 54, 55])] 0 w3 rfl (by decide) (by decide) HS3.out).mono ?_
  rw [ex_enc1]
  intro e w4 hret
  obtain ⟨co, cc, rfl, hcr, hcl, hcm, hcn, hx4⟩ := hret.bools
  have HC4 := Lib.hid hcr
  have HX4 := Lib.hid (HX3.out.trans hx4)
  have HSA4 := Lib.hid (HSA3.out.ext hx4)
  have HSB4 := Lib.hid (HSB3.out.ext hx4)
  clear hret hcr hcn hx4 HX3 HSA3 HSB3 HS3
  go_wp2_with fail
  refine (one_any 2 _ w4 (by decide)).mono ?_
  rintro e w5 ⟨ao5, rfl, hs5, hx5⟩
  have HS5 := Lib.hid hs5.segs
  have HX5 := Lib.hid (HX4.out.trans hx5)
  have HSA5 := Lib.hid (HSA4.out.ext hx5)
  have HSB5 := Lib.hid (HSB4.out.ext hx5)
  have HC5 := Lib.hid (HC4.out.ext hx5)
  clear hs5 hx5 HX4 HSA4 HSB4 HC4
  go_wp2_with fail
  refine (encode_any ao5 1 1 [(2, [65, 67, 45, 52, 50])] 0 w5 rfl (by decide) (by decide) HS5.out).mono ?_
  rw [ex_enc2]
  intro e w6 hret
  obtain ⟨d_o, dc, rfl, hdr, hdl, hdm, hdn, hx6⟩ := hret.bools
  have HD6 := Lib.hid hdr
  have HX6 := Lib.hid (HX5.out.trans hx6)
  have HSA6 := Lib.hid (HSA5.out.ext hx6)
  have HSB6 := Lib.hid (HSB5.out.ext hx6)
  have HC6 := Lib.hid (HC5.out.ext hx6)
  clear hret hdr hdn hx6 HX5 HSA5 HSB5 HC5 HS5
  go_wp2_with fail
  refine (rparse_any _ w6 (by decide)).mono ?_
  intro e w7 hret
  change RetSl w6 (bools (parseRes exX).1, (parseRes exX).2) e w7 at hret
  rw [ex_par1] at hret
  obtain ⟨xo, xc, rfl, hxr, hxl, hxm, hxn, hx7⟩ := hret.bools
  have HXR7 := Lib.hid hxr
  have HXN := Lib.hid hxn
  have HX7 := Lib.hid (HX6.out.trans hx7)
  have HSA7 := Lib.hid (HSA6.out.ext hx7)
  have HSB7 := Lib.hid (HSB6.out.ext hx7)
  have HC7 := Lib.hid (HC6.out.ext hx7)
  have HD7 := Lib.hid (HD6.out.ext hx7)
  clear hret hxr hxn hx7 HX6 HSA6 HSB6 HC6 HD6
  go_wp2_with fail
  refine (rparse_any _ w7 (by decide)).mono ?_
  intro e w8 hret
  change RetSl w7 (bools (parseRes exY).1, (parseRes exY).2) e w8 at hret
  rw [ex_par2] at hret
  obtain ⟨yo, yc, rfl, hyr, hyl, hym, hyn, hx8⟩ := hret.bools
  have HYR8 := Lib.hid hyr
  have HX8 := Lib.hid (HX7.out.trans hx8)
  have HSA8 := Lib.hid (HSA7.out.ext hx8)
  have HSB8 := Lib.hid (HSB7.out.ext hx8)
  have HC8 := Lib.hid (HC7.out.ext hx8)
  have HD8 := Lib.hid (HD7.out.ext hx8)
  have HXR8 := Lib.hid (HXR7.out.ext hx8)
  clear hret hyr hyn hx8 HX7 HSA7 HSB7 HC7 HD7 HXR7
  have hlx : (pbits exX).length = 41 := by decide +kernel
  have hly : (pbits exY).length = 41 := by decide +kernel
  rw [hlx] at hcl hxl ⊢
  rw [hly] at hdl hyl ⊢
  have HLX := Lib.hid hlx
  have HLY := Lib.hid hly
  clear hlx hly
  generalize hPX : pbits exX = PX at HC8 HXR8 HLX
  generalize hPY : pbits exY = PY at HD8 HYR8 HLY
  have HPX := Lib.hid hPX
  clear hPX hPY
  go_wp2_with fail
  refine (decode_any xo 41 xc PX 0 w8 HLX.out (by decide) HXN.out HXR8.out).mono ?_
  rw [← HPX.out, ex_dec]
  rintro e w9 ⟨lo, lc, rfl, hs9, hc9, hm9, hx9⟩
  have HL9 := Lib.hid hs9.segs
  have HX9 := Lib.hid (HX8.out.trans hx9)
  have HSA9 := Lib.hid (HSA8.out.ext hx9)
  have HSB9 := Lib.hid (HSB8.out.ext hx9)
  have HC9 := Lib.hid (HC8.out.ext hx9)
  have HD9 := Lib.hid (HD8.out.ext hx9)
  have HXR9 := Lib.hid (HXR8.out.ext hx9)
  have HYR9 := Lib.hid (HYR8.out.ext hx9)
  clear hs9 hx9 HX8 HSA8 HSB8 HC8 HD8 HXR8 HYR8
  simp only [List.length_cons, List.length_nil, Nat.zero_add]
  go_wp2_with fail
  refine (one_any 2 _ w9 (by decide)).mono ?_
  rintro e wa ⟨aoa, rfl, hsa, hxa⟩
  have HSa := Lib.hid hsa.segs
  have HXa := Lib.hid (HX9.out.trans hxa)
  have HSAa := Lib.hid (HSA9.out.ext hxa)
  have HSBa := Lib.hid (HSB9.out.ext hxa)
  have HCa := Lib.hid (HC9.out.ext hxa)
  have HDa := Lib.hid (HD9.out.ext hxa)
  have HXRa := Lib.hid (HXR9.out.ext hxa)
  have HYRa := Lib.hid (HYR9.out.ext hxa)
  have HLa := Lib.hid (HL9.out.ext hxa)
  clear hsa hxa HX9 HSA9 HSB9 HC9 HD9 HXR9 HYR9 HL9
  go_wp2_with fail
  refine (ssame_any ao1 aoa cap1 1 [(2, [72, 69, 76, 76, 79, 32, 87, 79, 82, 76, 68])] wa (by decide) HSAa.out HSa.out).mono ?_
  rintro e wb ⟨rfl, hxb⟩
  have HXb := Lib.hid (HXa.out.trans hxb)
  have HSBb := Lib.hid (HSBa.out.ext hxb)
  have HCb := Lib.hid (HCa.out.ext hxb)
  have HDb := Lib.hid (HDa.out.ext hxb)
  have HXRb := Lib.hid (HXRa.out.ext hxb)
  have HYRb := Lib.hid (HYRa.out.ext hxb)
  have HLb := Lib.hid (HLa.out.ext hxb)
  clear hxb HXa HSAa HSBa HCa HDa HXRa HYRa HLa HSa
  go_wp2_with fail
  refine (one_any 4 _ wb (by decide)).mono ?_
  rintro e wc ⟨aoc, rfl, hsc, hxc⟩
  have HSc := Lib.hid hsc.segs
  have HXc := Lib.hid (HXb.out.trans hxc)
  have HSBc := Lib.hid (HSBb.out.ext hxc)
  have HCc := Lib.hid (HCb.out.ext hxc)
  have HDc := Lib.hid (HDb.out.ext hxc)
  have HXRc := Lib.hid (HXRb.out.ext hxc)
  have HYRc := Lib.hid (HYRb.out.ext hxc)
  have HLc := Lib.hid (HLb.out.ext hxc)
  clear hsc hxc HXb HSBb HCb HDb HXRb HYRb HLb
  go_wp2_with fail
  refine (ssame_any ao2 aoc cap2 1 [(4, [97, 98, 99, 49, 50, 51])] wc (by decide) HSBc.out HSc.out).mono ?_
  rintro e wd ⟨rfl, hxd⟩
  have HXd := Lib.hid (HXc.out.trans hxd)
  have HCd := Lib.hid (HCc.out.ext hxd)
  have HDd := Lib.hid (HDc.out.ext hxd)
  have HXRd := Lib.hid (HXRc.out.ext hxd)
  have HYRd := Lib.hid (HYRc.out.ext hxd)
  have HLd := Lib.hid (HLc.out.ext hxd)
  clear hxd HXc HSBc HCc HDc HXRc HYRc HLc HSc
  go_wp2_with fail
  refine (same_any co xo 41 cc 41 xc PX PX wd HLX.out HLX.out (by decide) HCd.out HXRd.out).mono ?_
  rw [beq_self_eq_true]
  rintro e we ⟨rfl, hxe⟩
  have HXe := Lib.hid (HXd.out.trans hxe)
  have HDe := Lib.hid (HDd.out.ext hxe)
  have HYRe := Lib.hid (HYRd.out.ext hxe)
  have HLe := Lib.hid (HLd.out.ext hxe)
  clear hxe HXd HCd HDd HXRd HYRd HLd
  go_wp2_with fail
  refine (same_any d_o yo 41 dc 41 yc PY PY we HLY.out HLY.out (by decide) HDe.out HYRe.out).mono ?_
  rw [beq_self_eq_true]
  rintro e wf ⟨rfl, hxf⟩
  have HXf := Lib.hid (HXe.out.trans hxf)
  have HLf := Lib.hid (HLe.out.ext hxf)
  clear hxf HXe HDe HYRe HLe
  go_wp2_with fail
  refine (one_any 1 _ wf (by decide)).mono ?_
  rintro e wg ⟨aog, rfl, hsg, hxg⟩
  have HSg := Lib.hid hsg.segs
  have HXg := Lib.hid (HXf.out.trans hxg)
  have HLg := Lib.hid (HLf.out.ext hxg)
  clear hsg hxg HXf HLf
  go_wp2_with fail
  refine (ssame_any lo aog lc 1 [(1, [48, 49, 50, 51, 52, 53, 54, 55])] wg (by decide) HLg.out HSg.out).mono ?_
  rintro e wh ⟨rfl, hxh⟩
  have HXh := Lib.hid (HXg.out.trans hxh)
  clear hxh HXg HLg HSg
  go_wp2_with fail
  go_ret
  exact ⟨rfl, HXh.out⟩


theorem Try.laidOut : laidOutB Try.prog = true := by kernel_rfl
theorem Try.own : ownKnob Try.prog.godebug = none := by kernel_rfl
theorem Try.cellsBool : Try.prog.cellsOf 4 = 1 := by kernel_rfl
theorem Try.cellsByte : Try.prog.cellsOf 5 = 1 := by kernel_rfl
theorem wf_u8_bd {n : Int} (h : (Lit.int .u8 n).wf = true) : 0 ≤ n ∧ n ≤ 255 := by
  simpa [Lit.wf, IntKind.min, IntKind.max, IntKind.signed, IntKind.bits] using h
theorem wf_u16_bd {n : Int} (h : (Lit.int .u16 n).wf = true) : 0 ≤ n ∧ n ≤ 65535 := by
  simpa [Lit.wf, IntKind.min, IntKind.max, IntKind.signed, IntKind.bits] using h
theorem u8_of (x : Int) (h : 0 ≤ x ∧ x ≤ 255) : ∃ c : UInt8, x = c.toNat := by
  refine ⟨UInt8.ofNat x.toNat, ?_⟩
  simp
  omega

end Go.Proofs.Ythebfpolijajgaa
