/-
  For every input QrlayoutSigns returns true, and each argument reads afterwards as it read before (Rows.QrlayoutSignsSaid).
  No condition.
-/
import Derived.Test.YtjkpdhcnklgfbaaLayC
import Derived.Test.YtjkpdhcnklgfbaaRSign
import Derived.Test.YtjkpdhcnklgfbaaRRead
namespace Go.Proofs.Ytjkpdhcnklgfbaa
open Go.RowKit Go.Bs Go.ChangeShapes Go.WideShapes Go.ChangeAt Go.Joins Go.Qrv Go.Lay Go.Bch

/-- What Sign and Read return. -/
def sgAll (W H : Int) (n : Nat) (xs : List Bool) (l m : Int) : (Int × Int × List Bool) × Int := if mcode W H n = 0 then sgRes (((W - 17) / 4).toNat) xs l m else ((0, 0, []), mcode W H n)
def rdAll (W H : Int) (n : Nat) (xs : List Bool) : Int × Int × Int × Int := if mcode W H n = 0 then rdRes (((W - 17) / 4).toNat) xs else (0, 0, 0, mcode W H n)
theorem sign_all (W H : Int) (xs : List Bool) (ao : Option Addr) (n cap : Nat) (l m : Int) (w : World) (hl : xs.length = n) (hn0 : ao = none → cap = 0) (hr : Row w ao (bools xs)) :
    Calls Try.prog 17 #[.agg (matV W H ao n cap), .int .i64 l, .int .i64 m] w (RetMat 4 w (sgAll W H n xs l m)) := by
  by_cases hc : mcode W H n = 0
  · obtain ⟨v, h1, h2, rfl, rfl, rfl⟩ := mcode_ok hc
    rw [show sgAll (sd v) (sd v) (sd v * sd v) xs l m = sgRes v xs l m from by unfold sgAll; rw [if_pos hc, side_ver]]
    exact sign_ok v h1 h2 xs ao cap l m w hl hn0 hr
  · rw [show sgAll W H n xs l m = ((0, 0, []), mcode W H n) from by unfold sgAll; rw [if_neg hc]]
    exact sign_no W H ao n cap l m w hc
theorem rsign_all (W H : Int) (xs : List Bool) (ao : Option Addr) (n cap : Nat) (l m : Int) (w : World) (hl : xs.length = n) (hn0 : ao = none → cap = 0) (hr : Row w ao (bools xs)) :
    Calls Try.prog 18 #[.agg (matV W H ao n cap), .int .i64 l, .int .i64 m] w (RetMat 4 w (sgAll W H n xs l m)) := by
  by_cases hc : mcode W H n = 0
  · obtain ⟨v, h1, h2, rfl, rfl, rfl⟩ := mcode_ok hc
    rw [show sgAll (sd v) (sd v) (sd v * sd v) xs l m = sgRes v xs l m from by unfold sgAll; rw [if_pos hc, side_ver]]
    exact rsign_ok v h1 h2 xs ao cap l m w hl hn0 hr
  · rw [show sgAll W H n xs l m = ((0, 0, []), mcode W H n) from by unfold sgAll; rw [if_neg hc]]
    exact rsign_no W H ao n cap l m w hc
theorem read_all (W H : Int) (xs : List Bool) (ao : Option Addr) (n cap : Nat) (w : World) (hl : xs.length = n) (hr : Row w ao (bools xs)) :
    Calls Try.prog 19 #[.agg (matV W H ao n cap)] w fun e w' => e = .returned (four (rdAll W H n xs)) ∧ Ext w w' := by
  by_cases hc : mcode W H n = 0
  · obtain ⟨v, h1, h2, rfl, rfl, rfl⟩ := mcode_ok hc
    rw [show rdAll (sd v) (sd v) (sd v * sd v) xs = rdRes v xs from by unfold rdAll; rw [if_pos hc, side_ver]]
    exact read_ok v h1 h2 xs ao cap w hl hr
  · rw [show rdAll W H n xs = (0, 0, 0, mcode W H n) from by unfold rdAll; rw [if_neg hc]]
    exact read_no W H ao n cap w hc
theorem rread_all (W H : Int) (xs : List Bool) (ao : Option Addr) (n cap : Nat) (w : World) (hl : xs.length = n) (hr : Row w ao (bools xs)) :
    Calls Try.prog 20 #[.agg (matV W H ao n cap)] w fun e w' => e = .returned (four (rdAll W H n xs)) ∧ Ext w w' := by
  by_cases hc : mcode W H n = 0
  · obtain ⟨v, h1, h2, rfl, rfl, rfl⟩ := mcode_ok hc
    rw [show rdAll (sd v) (sd v) (sd v * sd v) xs = rdRes v xs from by unfold rdAll; rw [if_pos hc, side_ver]]
    exact rread_ok v h1 h2 xs ao cap w hl hr
  · rw [show rdAll W H n xs = (0, 0, 0, mcode W H n) from by unfold rdAll; rw [if_neg hc]]
    exact rread_no W H ao n cap w hc
theorem sgAll_len (W H : Int) (n : Nat) (xs : List Bool) (l m : Int) (hl : xs.length = n) : (sgAll W H n xs l m).1.2.2.length ≤ n := by
  unfold sgAll sgRes
  split
  · split
    · show (signN _ _ _).length ≤ n
      rw [signN_len, hl]
      exact Nat.le_refl _
    · exact Nat.zero_le _
  · exact Nat.zero_le _

set_option maxRecDepth 20000 in
set_option maxHeartbeats 2000000 in
theorem qrlayoutSigns_walk (W H : Int) (ao : Option Addr) (len cap : Nat) (xs : List Bool) (l m : Int) (w : World) (_ : -9223372036854775808 ≤ W ∧ W ≤ 9223372036854775807) (_ : -9223372036854775808 ≤ H ∧ H ≤ 9223372036854775807)
    (hl : xs.length = len) (_ : len ≤ cap) (_ : cap ≤ 9223372036854775807) (hn : ao = none → cap = 0) (hr : Row w ao (bools xs)) (_ : -9223372036854775808 ≤ l ∧ l ≤ 9223372036854775807) (_ : -9223372036854775808 ≤ m ∧ m ≤ 9223372036854775807) :
    Calls Try.prog 4 #[.agg #[.int .i64 W, .int .i64 H, .slice ao len cap], .int .i64 l, .int .i64 m] w fun e w' => e = .returned (.bool true) ∧ Ext w w' := by
  have HSM := fun (V : World) => Lib.hid (small20_any W H ao len cap V)
  unfold matV at HSM
  obtain ⟨W1, hW1⟩ : ∃ W1, W1 = w.alloc (.cells #[.int .i64 W, .int .i64 H, .slice ao len cap] 24) := ⟨_, rfl⟩
  have HX1 : Hid (Ext w W1) := by rw [hW1]; exact Ext.alloc _ _
  have HBX : Hid (∀ V, Ext W1 V → V.cell? ⟨w.heap.size, 0, none⟩ = some (.int .i64 W) ∧ V.cell? ⟨w.heap.size, 1, none⟩ = some (.int .i64 H) ∧ V.cell? ⟨w.heap.size, 2, none⟩ = some (.slice ao len cap) ∧ w.heap.size < V.heap.size) := by
    intro V hv
    rw [hW1] at hv
    obtain ⟨a, b, c⟩ := box3 hv
    exact ⟨a, b, c, World.block_lt_of_cell? V ⟨w.heap.size, 0, none⟩ a⟩
  have HW1 := Lib.hid hW1
  have HR := Lib.hid hr
  by_cases hs : (len : Int) ≤ 40000
  · rw [decide_eq_true hs] at HSM
    have HBL := fun (V : World) (h : Row V ao (bools xs)) => Lib.hid (sign_all W H xs ao len cap l m V hl hn h)
    have HRB := fun (V : World) (h : Row V ao (bools xs)) => Lib.hid (rsign_all W H xs ao len cap l m V hl hn h)
    have HFA := fun (V : World) (h : Row V ao (bools xs)) => Lib.hid (read_all W H xs ao len cap V hl h)
    have HRF := fun (V : World) (h : Row V ao (bools xs)) => Lib.hid (rread_all W H xs ao len cap V hl h)
    have hbl := sgAll_len W H len xs l m hl
    unfold RetMat at HBL HRB
    unfold matV four at *
    generalize rdAll W H len xs = F at HFA HRF
    obtain ⟨f1, f2, f3, f4⟩ := F
    generalize sgAll W H len xs l m = B at HBL HRB hbl
    obtain ⟨⟨bw, bh, bx⟩, be⟩ := B
    simp only at HBL HRB HFA HRF hbl
    have HSS := fun (ao bo : Option Addr) (ca cb : Nat) (V : World) (h1 : Row V ao (bools bx)) (h2 : Row V bo (bools bx)) => Lib.hid (same_same bw bh ao bo _ ca cb bx V rfl (by omega) h1 h2)
    unfold matV at HSS
    generalize bx.length = q at *
    clear hl hbl hn hr hW1
    go_enter Try.func4, Try.ntmps4
    go_wp2_with fail
    rw [← HW1.out]
    refine (HSM _).out.mono ?_
    rintro e w2 ⟨rfl, hx2⟩
    have HX2 := Lib.hid hx2
    obtain ⟨z0, z1, z2, z3⟩ := HBX.out w2 hx2
    clear hx2
    go_wp2_with fail
    refine (HBL _ (HR.out.ext (HX1.out.trans HX2.out))).out.mono ?_
    rintro e w3 ⟨s3, rfl, ho3, hx3⟩
    obtain ⟨a3, c3, rfl, l3, m3, -, r3⟩ := own_row ho3
    have HX3 := Lib.hid (HX2.out.trans hx3)
    have HR3 := Lib.hid r3
    clear ho3 hx3 r3 z0 z1 z2 z3
    obtain ⟨z0, z1, z2, z3⟩ := HBX.out w3 HX3.out
    go_wp2_with fail
    refine (HRB _ (HR.out.ext (HX1.out.trans (HX3.out.trans (Ext.alloc _ _))))).out.mono ?_
    rintro e w4 ⟨s4, rfl, ho4, hx4⟩
    obtain ⟨a4, c4, rfl, l4, m4, -, r4⟩ := own_row ho4
    have HX4 := Lib.hid (HX3.out.trans ((Ext.alloc _ _).trans hx4))
    have HR34 := Lib.hid (HR3.out.ext ((Ext.alloc w3 (.cells #[.int .i64 bw, .int .i64 bh, .slice a3 q c3] 24)).trans hx4))
    have HR4 := Lib.hid r4
    have HY3 := Lib.hid hx4
    clear ho4 hx4 r4 z0 z1 z2 z3
    obtain ⟨z0, z1, z2, z3⟩ := HBX.out w4 HX4.out
    go_wp2_with fail
    refine (HFA _ (HR.out.ext (HX1.out.trans (HX4.out.trans (Ext.alloc _ _))))).out.mono ?_
    rintro e w5 ⟨rfl, hx5⟩
    have HX5 := Lib.hid (HX4.out.trans ((Ext.alloc _ _).trans hx5))
    have HY5 := Lib.hid hx5
    clear hx5 z0 z1 z2 z3
    obtain ⟨z0, z1, z2, z3⟩ := HBX.out w5 HX5.out
    go_wp2_with fail
    refine (HRF _ (HR.out.ext (HX1.out.trans HX5.out))).out.mono ?_
    rintro e w6 ⟨rfl, hx6⟩
    have HX6 := Lib.hid (HX5.out.trans hx6)
    have HY6 := Lib.hid (HY5.out.trans hx6)
    clear hx6 z0 z1 z2 z3
    obtain ⟨y0, y1, y2⟩ := box3 HY6.out
    obtain ⟨x0, x1, x2⟩ := box3 (HY3.out.trans ((Ext.alloc w4 _).trans HY6.out))
    go_wp2_with fail
    refine (HSS a3 a4 c3 c4 _ (HR34.out.ext ((Ext.alloc w4 _).trans HY6.out)) (HR4.out.ext ((Ext.alloc w4 _).trans HY6.out))).out.mono ?_
    rintro e w7 ⟨rfl, hx7⟩
    have HX7 := Lib.hid (HX6.out.trans hx7)
    clear hx7 y0 y1 y2 x0 x1 x2
    go_wp2_with fail
    refine (alive20_any _).mono ?_
    rintro e w8 ⟨rfl, hx8⟩
    go_wp2_with fail
    go_ret
    exact ⟨rfl, HX1.out.trans (HX7.out.trans hx8)⟩
  · have hs' : decide ((len : Int) ≤ 40000) = false := decide_eq_false hs
    rw [hs'] at HSM
    clear hs hs' hl hn hr hW1
    go_enter Try.func4, Try.ntmps4
    go_wp2_with fail
    rw [← HW1.out]
    refine (HSM _).out.mono ?_
    rintro e w2 ⟨rfl, hx2⟩
    have HX2 := Lib.hid hx2
    clear hx2
    go_wp2_with fail
    refine (alive20_any _).mono ?_
    rintro e w3 ⟨rfl, hx3⟩
    go_wp2_with fail
    go_ret
    exact ⟨rfl, HX1.out.trans (HX2.out.trans hx3)⟩

set_option maxRecDepth 100000 in
theorem qrlayoutSigns_lifted (os : Os) (started : os.Started) (H : Type) (enc : TypeId × Value → H) :
    ReturnsInHanded {} Try.checked os 4 .any (Rows.qrlayoutSignsSpec.pre6 enc Try.prog Try.f4 Rows.qrlayoutSignsRow.domain false) (Rows.qrlayoutSignsSpec.post enc Try.prog Try.f4 false true false false) := by
  refine returnsInHanded_of_change (C := Try.checked) Try.own started (by kernel_rfl) Try.func4
    (ChangeSpec.witness6 (enc := enc) (C := Try.checked) false ⟨#[], #[.agg #[.int .i64 0, .int .i64 0, .slice none 0 0], .int .i64 0, .int .i64 0], []⟩ 8 (by kernel_rfl) (by kernel_rfl) (by kernel_rfl) (by kernel_rfl)) ?_
  intro W base args ds gs before hval0 hW _ _
  have hval : ∀ (j : Nat) t v, Try.f4.params[j]? = some t → args[j]? = some v → Value.okWide Try.prog W .any base t v := hval0
  have hW' := hW
  obtain ⟨p, q, hA0, hV, rfl, _, _⟩ := hW
  have hA : DataW.TrodAll enc Try.prog W 0 (fun _ => true) true Try.f4.params.toList args.toList ds p := hA0
  rw [Try.params4] at hA hval
  obtain ⟨rfl, rfl⟩ := trodVars_none hV
  clear hA0 hval0
  simp only [List.append_nil] at hW'
  have hlt : ∀ x ∈ p, x.block < W.heap.size := fun x hx => by simpa using hW'.lt x hx
  have hstay : ∀ W', Below W.heap.size W W' → _ := fun W' hb => args_stay (enc := enc) Try.laidOut hb _ _ _ _ (by kernel_rfl) hA hlt
  obtain ⟨v0, v1, v2, d0, d1, d2, p0, p1, p2, rfl, rfl, rfl, h0, h1, h2⟩ := trodAll_three hA
  obtain ⟨c0_0, c0_1, c0_2, y0_0, y0_1, y0_2, m0, rfl, rfl, rfl, hy0_0, hy0_1, hy0_2⟩ := open_agg3 Try.underlying24 (by kernel_rfl) (by kernel_rfl) (hval 0 24 v0 rfl rfl) h0
  obtain ⟨x0, ex0, _, wx0⟩ := DataW.trod_int Try.underlying3 hy0_0
  simp at ex0
  subst ex0
  obtain ⟨x1, ex1, _, wx1⟩ := DataW.trod_int Try.underlying3 hy0_1
  simp at ex1
  subst ex1
  obtain ⟨xs2, ao2', len2', cap2', hv2, hl2, hc2, hm2, hn2, hr2⟩ := view_bools Try.underlying22 Try.underlying4 Try.cellsBool hy0_2
  subst hv2
  obtain ⟨x3, rfl, rfl, rfl, wx3⟩ := open_int Try.underlying34 (hval 1 34 v1 rfl rfl) h1
  obtain ⟨x4, rfl, rfl, rfl, wx4⟩ := open_int Try.underlying3 (hval 2 3 v2 rfl rfl) h2
  refine (qrlayoutSigns_walk x0 x1 ao2' len2' cap2' xs2 x3 x4 W (wf_i64_bd wx0) (wf_i64_bd wx1) (by rw [length_bools] at hl2; exact hl2) hc2 hm2 hn2 hr2 (wf_i64_bd wx3) (wf_i64_bd wx4)).mono fun e W' ⟨he, hb⟩ => ?_
  subst he
  exact ⟨_, rfl, _, _, _, [], _, [], hW', trodAll_mk1 (shut_bool Try.underlying4 _), hstay W' hb, rfl, hb.frame _, fun h => by cases h⟩

theorem qrlayoutSigns_holds : Rows.QrlayoutSignsSaid :=
  OpenClaim.holds_of_wide 4 Try.f4 rfl rfl rfl rfl rfl rfl rfl ⟨rfl, rfl, rfl, rfl, rfl⟩ rfl rfl rfl rfl rfl (by kernel_rfl) Try.func4 (by kernel_rfl)
    (of_decide_eq_true (by kernel_rfl)) (by unfold Func.isWrapper; first | (rw [if_pos (by decide +kernel)]; kernel_rfl) | (rw [if_neg (by decide +kernel)]; exact ⟨rfl, rfl⟩))
    (fun os started H enc _ => qrlayoutSigns_lifted os started H enc)


end Go.Proofs.Ytjkpdhcnklgfbaa
