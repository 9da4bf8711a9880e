/-
  For every input QrlayoutCells returns true, and each argument reads afterwards as it read before (Rows.QrlayoutCellsSaid).
  No condition.
-/
import Derived.Test.YtjkpdhcnklgfbaaLive
namespace Go.Proofs.Ytjkpdhcnklgfbaa
open Go.RowKit Go.Bs Go.ChangeShapes Go.WideShapes Go.ChangeAt Go.Joins Go.Qrv Go.Lay

theorem cellsRes_len (v : Int) : (cellsRes v).1.length ≤ 100000 ∧ (pathRes v).1.length ≤ 100000 ∧ (cellsRes v).2 = (pathRes v).2 := by
  by_cases hv : inV v
  · obtain ⟨n, rfl, h1, h2⟩ := inV_nat hv
    rw [cellsRes_1 hv, pathRes_1 hv]
    refine ⟨?_, pathN_len n h2, rfl⟩
    have h3 : (cellsN n).length = sd n * sd n := by rw [← length_ints]; exact cellsN_len n
    have h4 : sd n * sd n ≤ 177 * 177 := Nat.mul_le_mul (by unfold sd; omega) (by unfold sd; omega)
    show (cellsN n).length ≤ _
    omega
  · rw [cellsRes_2 hv, pathRes_2 hv]
    exact ⟨by decide, by decide, rfl⟩

set_option maxRecDepth 20000 in
set_option maxHeartbeats 1000000 in
theorem qrlayoutCells_walk (v : Int) (w : World) (_ : -9223372036854775808 ≤ v ∧ v ≤ 9223372036854775807) :
    Calls Try.prog 6 #[.int .i64 v] w fun e w' => e = .returned (.bool true) ∧ Ext w w' := by
  obtain ⟨b1, b2, b3⟩ := cellsRes_len v
  have HC := fun (V : World) => Lib.hid (cells_res v V)
  have HR := fun (V : World) => Lib.hid (rcells_res v V)
  have HP := fun (V : World) => Lib.hid (path_res v V)
  have HQ := fun (V : World) => Lib.hid (rpath_res v V)
  have HB := fun (ao bo : Option Addr) (ca cb : Nat) (V : World) (hp : Pts V ao (pathRes v).1) (hq : Pts V bo (pathRes v).1) => Lib.hid (points_any ao bo _ ca cb (pathRes v).1 V rfl (by omega) hp hq)
  unfold RetPts at HP HQ
  unfold RetSl at HC HR
  rw [length_ints] at HC HR
  generalize cellsRes v = A at HC HR b1 b3
  generalize pathRes v = B at HP HQ HB b2 b3
  obtain ⟨cs, e1⟩ := A
  obtain ⟨ps, e2⟩ := B
  simp only at HC HR HP HQ HB b1 b2 b3
  subst b3
  obtain ⟨n, hn⟩ : ∃ n, n = cs.length := ⟨_, rfl⟩
  have HCE : Hid (∀ i, i < n → ∃ x, (ints cs)[i]? = some (.int .i64 x)) := fun i hi => ⟨_, Go.Bs.ints_at cs i (by omega)⟩
  rw [← hn] at HC HR b1
  clear hn
  generalize ps.length = q at HP HQ HB b2
  generalize ints cs = C at HC HR HCE
  go_enter Try.func6, Try.ntmps6
  go_wp2_with fail
  refine (HC _).out.mono ?_
  rintro e w1 ⟨a1, c1, rfl, r1, l1, m1, -, hx1⟩
  go_wp2_with fail
  refine (HR _).out.mono ?_
  rintro e w2 ⟨a2, c2, rfl, r2, l2, m2, -, hx2⟩
  go_wp2_with fail
  refine (HP _).out.mono ?_
  rintro e w3 ⟨a3, c3, rfl, r3, l3, m3, hx3⟩
  go_wp2_with fail
  refine (HQ _).out.mono ?_
  rintro e w4 ⟨a4, c4, rfl, r4, l4, m4, hx4⟩
  have R1 := Lib.hid (r1.ext (hx2.trans (hx3.trans hx4)))
  have R2 := Lib.hid (r2.ext (hx3.trans hx4))
  have R3 := Lib.hid (r3.ext hx4)
  have R4 := Lib.hid r4
  have HX := Lib.hid (hx1.trans (hx2.trans (hx3.trans hx4)))
  clear r1 r2 r3 r4 hx1 hx2 hx3 hx4
  go_wp2_with fail
  refine (HB _ _ _ _ _ R3.out R4.out).out.mono ?_
  rintro e w5 ⟨rfl, hx5⟩
  have HX5 := Lib.hid hx5
  clear hx5
  go_wp2_with fail
  go_loopw [11, 55] (fun _ ii wr => ∃ i : Nat, i ≤ n ∧ ii = .int .i64 i ∧ Hid (Ext w5 wr)) (fun _ ii _ => n - (intOf ii).toNat)
  case atStart => exact ⟨0, Nat.zero_le _, rfl, Ext.refl _⟩
  case round =>
    obtain ⟨i, hi, rfl, HXr⟩ := hrel
    by_cases hlt : i < n
    · obtain ⟨x, hx⟩ := HCE.out i hlt
      obtain ⟨q1, rfl, z1⟩ := (R1.out.ext (HX5.out.trans HXr.out)).at hx
      obtain ⟨q2, rfl, z2⟩ := (R2.out.ext (HX5.out.trans HXr.out)).at hx
      have hi1 : (i : Int) < (n : Int) := by omega
      clear hx
      go_wp2_with fail
      go_quiet (fail)
      go_wp2_with fail
      refine ⟨⟨i + 1, by omega, by rw [Int.natCast_succ], HXr.out.drewN _⟩, by simp [intOf]; omega⟩
    · obtain rfl : i = n := by omega
      go_wp2_with fail
      refine (alive20_any _).mono ?_
      rintro e w6 ⟨rfl, hx6⟩
      go_wp2_with fail
      go_ret
      exact ⟨rfl, HX.out.trans (HX5.out.trans (HXr.out.trans hx6))⟩

set_option maxRecDepth 100000 in
theorem qrlayoutCells_lifted (os : Os) (started : os.Started) (H : Type) (enc : TypeId × Value → H) :
    ReturnsInHanded {} Try.checked os 6 .any (Rows.qrlayoutCellsSpec.pre6 enc Try.prog Try.f6 Rows.qrlayoutCellsRow.domain false) (Rows.qrlayoutCellsSpec.post enc Try.prog Try.f6 false true false false) := by
  refine returnsInHanded_of_change (C := Try.checked) Try.own started (by kernel_rfl) Try.func6
    (ChangeSpec.witness6 (enc := enc) (C := Try.checked) false ⟨#[], #[.int .i64 0], []⟩ 8 (by kernel_rfl) (by kernel_rfl) (by kernel_rfl) (by kernel_rfl)) ?_
  intro W base args ds gs before hval0 hW _ _
  have hval : ∀ (j : Nat) t v, Try.f6.params[j]? = some t → args[j]? = some v → Value.okWide Try.prog W .any base t v := hval0
  have hW' := hW
  obtain ⟨p, q, hA0, hV, rfl, _, _⟩ := hW
  have hA : DataW.TrodAll enc Try.prog W 0 (fun _ => true) true Try.f6.params.toList args.toList ds p := hA0
  rw [Try.params6] at hA hval
  obtain ⟨rfl, rfl⟩ := trodVars_none hV
  clear hA0 hval0
  simp only [List.append_nil] at hW'
  have hlt : ∀ x ∈ p, x.block < W.heap.size := fun x hx => by simpa using hW'.lt x hx
  have hstay : ∀ W', Below W.heap.size W W' → _ := fun W' hb => args_stay (enc := enc) Try.laidOut hb _ _ _ _ (by kernel_rfl) hA hlt
  obtain ⟨v0, d0, rfl, rfl, h0⟩ := trodAll_one hA
  obtain ⟨x0, rfl, rfl, rfl, wx0⟩ := open_int Try.underlying3 (hval 0 3 v0 rfl rfl) h0
  refine (qrlayoutCells_walk x0 W (wf_i64_bd wx0)).mono fun e W' ⟨he, hb⟩ => ?_
  subst he
  exact ⟨_, rfl, _, _, _, [], _, [], hW', trodAll_mk1 (shut_bool Try.underlying4 _), hstay W' hb, rfl, hb.frame _, fun h => by cases h⟩

theorem qrlayoutCells_holds : Rows.QrlayoutCellsSaid :=
  OpenClaim.holds_of_wide 6 Try.f6 rfl rfl rfl rfl rfl rfl rfl ⟨rfl, rfl, rfl, rfl, rfl⟩ rfl rfl rfl rfl rfl (by kernel_rfl) Try.func6 (by kernel_rfl)
    (of_decide_eq_true (by kernel_rfl)) (by unfold Func.isWrapper; first | (rw [if_pos (by decide +kernel)]; kernel_rfl) | (rw [if_neg (by decide +kernel)]; exact ⟨rfl, rfl⟩))
    (fun os started H enc _ => qrlayoutCells_lifted os started H enc)


end Go.Proofs.Ytjkpdhcnklgfbaa
