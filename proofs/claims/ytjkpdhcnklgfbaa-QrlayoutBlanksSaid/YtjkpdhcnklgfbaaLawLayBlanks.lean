/-
  For every input QrlayoutBlanks returns true, and each argument reads afterwards as it read before (Rows.QrlayoutBlanksSaid).
  No condition.
-/
import Derived.Test.YtjkpdhcnklgfbaaLayC
namespace Go.Proofs.Ytjkpdhcnklgfbaa
open Go.RowKit Go.Bs Go.ChangeShapes Go.WideShapes Go.ChangeAt Go.Joins Go.Qrv Go.Lay

theorem blankRes_len (v : Int) : (blankRes v).1.2.2.length ≤ 100000 := by
  by_cases hv : inV v
  · obtain ⟨n, rfl, h1, h2⟩ := inV_nat hv
    rw [blankRes_1 hv]
    have h4 : sd n * sd n ≤ 177 * 177 := Nat.mul_le_mul (by unfold sd; omega) (by unfold sd; omega)
    show (blankN n).length ≤ _
    rw [blankN_len]
    omega
  · rw [blankRes_2 hv]
    decide

set_option maxRecDepth 20000 in
set_option maxHeartbeats 2000000 in
theorem qrlayoutBlanks_walk (v W H : Int) (ao : Option Addr) (len cap : Nat) (xs : List Bool) (w : World) (_ : -9223372036854775808 ≤ v ∧ v ≤ 9223372036854775807) (_ : -9223372036854775808 ≤ W ∧ W ≤ 9223372036854775807) (_ : -9223372036854775808 ≤ H ∧ H ≤ 9223372036854775807)
    (hl : xs.length = len) (hc : len ≤ cap) (_ : cap ≤ 9223372036854775807) (_ : ao = none → cap = 0) (hr : Row w ao (bools xs)) :
    Calls Try.prog 3 #[.int .i64 v, .agg #[.int .i64 W, .int .i64 H, .slice ao len cap]] w fun e w' => e = .returned (.bool true) ∧ Ext w w' := by
  have HSM := fun (V : World) => Lib.hid (small20_any W H ao len cap V)
  unfold matV at HSM
  obtain ⟨W1, hW1⟩ : ∃ W1, W1 = w.alloc (.cells #[.int .i64 W, .int .i64 H, .slice ao len cap] 24) := ⟨_, rfl⟩
  have HX1 : Hid (Ext w W1) := by rw [hW1]; exact Ext.alloc _ _
  have HBX : Hid (∀ V, Ext W1 V → V.cell? ⟨w.heap.size, 0, none⟩ = some (.int .i64 W) ∧ V.cell? ⟨w.heap.size, 1, none⟩ = some (.int .i64 H) ∧ V.cell? ⟨w.heap.size, 2, none⟩ = some (.slice ao len cap) ∧ w.heap.size < V.heap.size) := by
    intro V hv
    rw [hW1] at hv
    obtain ⟨a, b, c⟩ := box3 hv
    exact ⟨a, b, c, World.block_lt_of_cell? V ⟨w.heap.size, 0, none⟩ a⟩
  have HW1 := Lib.hid hW1
  have HR := Lib.hid hr
  clear hW1 hr
  by_cases hs : (len : Int) ≤ 40000
  · rw [decide_eq_true hs] at HSM
    have HBL := fun (V : World) => Lib.hid (blank_res v V)
    have HRB := fun (V : World) => Lib.hid (rblank_res v V)
    have HFA := fun (V : World) (h : Row V ao (bools xs)) => Lib.hid (faults_any W H xs ao len cap V hl hc h)
    have HRF := fun (V : World) (h : Row V ao (bools xs)) => Lib.hid (rfaults_any W H xs ao len cap V hl hc h)
    have hbl := blankRes_len v
    unfold RetMat at HBL HRB
    unfold matV two at *
    generalize fltRes W H len xs = F at HFA HRF
    obtain ⟨f1, f2⟩ := F
    generalize blankRes v = B at HBL HRB hbl
    obtain ⟨⟨bw, bh, bx⟩, be⟩ := B
    simp only at HBL HRB HFA HRF hbl
    have HSS := fun (ao bo : Option Addr) (ca cb : Nat) (V : World) (h1 : Row V ao (bools bx)) (h2 : Row V bo (bools bx)) => Lib.hid (same_same bw bh ao bo _ ca cb bx V rfl (by omega) h1 h2)
    unfold matV at HSS
    generalize bx.length = q at *
    clear hl hbl
    go_enter Try.func3, Try.ntmps3
    go_wp2_with fail
    rw [← HW1.out]
    refine (HSM _).out.mono ?_
    rintro e w2 ⟨rfl, hx2⟩
    have HX2 := Lib.hid hx2
    clear hx2
    go_wp2_with fail
    refine (HBL _).out.mono ?_
    rintro e w3 ⟨s3, rfl, ho3, hx3⟩
    obtain ⟨a3, c3, rfl, l3, m3, -, r3⟩ := own_row ho3
    have HX3 := Lib.hid (HX2.out.trans hx3)
    have HR3 := Lib.hid r3
    clear ho3 hx3 r3
    go_wp2_with fail
    refine (HRB _).out.mono ?_
    rintro e w4 ⟨s4, rfl, ho4, hx4⟩
    obtain ⟨a4, c4, rfl, l4, m4, -, r4⟩ := own_row ho4
    have HX4 := Lib.hid (HX3.out.trans ((Ext.alloc _ _).trans hx4))
    have HR34 := Lib.hid (HR3.out.ext ((Ext.alloc w3 (.cells #[.int .i64 bw, .int .i64 bh, .slice a3 q c3] 24)).trans hx4))
    have HR4 := Lib.hid r4
    have HY3 := Lib.hid hx4
    clear ho4 hx4 r4
    obtain ⟨z0, z1, z2, z3⟩ := HBX.out w4 HX4.out
    go_wp2_with fail
    refine (HFA _ (HR.out.ext (HX1.out.trans (HX4.out.trans (Ext.alloc _ _))))).out.mono ?_
    rintro e w5 ⟨rfl, hx5⟩
    have HX5 := Lib.hid (HX4.out.trans ((Ext.alloc _ _).trans hx5))
    have HY5 := Lib.hid hx5
    clear hx5 z0 z1 z2 z3
    obtain ⟨z0, z1, z2, z3⟩ := HBX.out w5 HX5.out
    go_wp2_with fail
    refine (HRF _ (HR.out.ext (HX1.out.trans HX5.out))).out.mono ?_
    rintro e w6 ⟨rfl, hx6⟩
    have HX6 := Lib.hid (HX5.out.trans hx6)
    have HY6 := Lib.hid (HY5.out.trans hx6)
    clear hx6 z0 z1 z2 z3
    obtain ⟨y0, y1, y2⟩ := box3 HY6.out
    obtain ⟨x0, x1, x2⟩ := box3 (HY3.out.trans ((Ext.alloc w4 _).trans HY6.out))
    go_wp2_with fail
    refine (HSS a3 a4 c3 c4 _ (HR34.out.ext ((Ext.alloc w4 _).trans HY6.out)) (HR4.out.ext ((Ext.alloc w4 _).trans HY6.out))).out.mono ?_
    rintro e w7 ⟨rfl, hx7⟩
    have HX7 := Lib.hid (HX6.out.trans hx7)
    clear hx7 y0 y1 y2 x0 x1 x2
    go_wp2_with fail
    refine (alive20_any _).mono ?_
    rintro e w8 ⟨rfl, hx8⟩
    go_wp2_with fail
    go_ret
    exact ⟨rfl, HX1.out.trans (HX7.out.trans hx8)⟩
  · have hs' : decide ((len : Int) ≤ 40000) = false := decide_eq_false hs
    rw [hs'] at HSM
    clear hs hs' hl hc
    go_enter Try.func3, Try.ntmps3
    go_wp2_with fail
    rw [← HW1.out]
    refine (HSM _).out.mono ?_
    rintro e w2 ⟨rfl, hx2⟩
    have HX2 := Lib.hid hx2
    clear hx2
    go_wp2_with fail
    refine (alive20_any _).mono ?_
    rintro e w3 ⟨rfl, hx3⟩
    go_wp2_with fail
    go_ret
    exact ⟨rfl, HX1.out.trans (HX2.out.trans hx3)⟩

set_option maxRecDepth 100000 in
theorem qrlayoutBlanks_lifted (os : Os) (started : os.Started) (H : Type) (enc : TypeId × Value → H) :
    ReturnsInHanded {} Try.checked os 3 .any (Rows.qrlayoutBlanksSpec.pre6 enc Try.prog Try.f3 Rows.qrlayoutBlanksRow.domain false) (Rows.qrlayoutBlanksSpec.post enc Try.prog Try.f3 false true false false) := by
  refine returnsInHanded_of_change (C := Try.checked) Try.own started (by kernel_rfl) Try.func3
    (ChangeSpec.witness6 (enc := enc) (C := Try.checked) false ⟨#[], #[.int .i64 0, .agg #[.int .i64 0, .int .i64 0, .slice none 0 0]], []⟩ 8 (by kernel_rfl) (by kernel_rfl) (by kernel_rfl) (by kernel_rfl)) ?_
  intro W base args ds gs before hval0 hW _ _
  have hval : ∀ (j : Nat) t v, Try.f3.params[j]? = some t → args[j]? = some v → Value.okWide Try.prog W .any base t v := hval0
  have hW' := hW
  obtain ⟨p, q, hA0, hV, rfl, _, _⟩ := hW
  have hA : DataW.TrodAll enc Try.prog W 0 (fun _ => true) true Try.f3.params.toList args.toList ds p := hA0
  rw [Try.params3] at hA hval
  obtain ⟨rfl, rfl⟩ := trodVars_none hV
  clear hA0 hval0
  simp only [List.append_nil] at hW'
  have hlt : ∀ x ∈ p, x.block < W.heap.size := fun x hx => by simpa using hW'.lt x hx
  have hstay : ∀ W', Below W.heap.size W W' → _ := fun W' hb => args_stay (enc := enc) Try.laidOut hb _ _ _ _ (by kernel_rfl) hA hlt
  obtain ⟨v0, v1, d0, d1, p0, p1, rfl, rfl, rfl, h0, h1⟩ := trodAll_two hA
  obtain ⟨x0, rfl, rfl, rfl, wx0⟩ := open_int Try.underlying3 (hval 0 3 v0 rfl rfl) h0
  obtain ⟨c1_0, c1_1, c1_2, y1_0, y1_1, y1_2, m1, rfl, rfl, rfl, hy1_0, hy1_1, hy1_2⟩ := open_agg3 Try.underlying24 (by kernel_rfl) (by kernel_rfl) (hval 1 24 v1 rfl rfl) h1
  obtain ⟨x1, ex1, _, wx1⟩ := DataW.trod_int Try.underlying3 hy1_0
  simp at ex1
  subst ex1
  obtain ⟨x2, ex2, _, wx2⟩ := DataW.trod_int Try.underlying3 hy1_1
  simp at ex2
  subst ex2
  obtain ⟨xs3, ao3', len3', cap3', hv3, hl3, hc3, hm3, hn3, hr3⟩ := view_bools Try.underlying22 Try.underlying4 Try.cellsBool hy1_2
  subst hv3
  refine (qrlayoutBlanks_walk x0 x1 x2 ao3' len3' cap3' xs3 W (wf_i64_bd wx0) (wf_i64_bd wx1) (wf_i64_bd wx2) (by rw [length_bools] at hl3; exact hl3) hc3 hm3 hn3 hr3).mono fun e W' ⟨he, hb⟩ => ?_
  subst he
  exact ⟨_, rfl, _, _, _, [], _, [], hW', trodAll_mk1 (shut_bool Try.underlying4 _), hstay W' hb, rfl, hb.frame _, fun h => by cases h⟩

theorem qrlayoutBlanks_holds : Rows.QrlayoutBlanksSaid :=
  OpenClaim.holds_of_wide 3 Try.f3 rfl rfl rfl rfl rfl rfl rfl ⟨rfl, rfl, rfl, rfl, rfl⟩ rfl rfl rfl rfl rfl (by kernel_rfl) Try.func3 (by kernel_rfl)
    (of_decide_eq_true (by kernel_rfl)) (by unfold Func.isWrapper; first | (rw [if_pos (by decide +kernel)]; kernel_rfl) | (rw [if_neg (by decide +kernel)]; exact ⟨rfl, rfl⟩))
    (fun os started H enc _ => qrlayoutBlanks_lifted os started H enc)


end Go.Proofs.Ytjkpdhcnklgfbaa
