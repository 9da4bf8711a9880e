/-
  For every input QrlayoutFills returns true, and each argument reads afterwards as it read before (Rows.QrlayoutFillsSaid).
  No condition.
-/
import Derived.Test.YtjkpdhcnklgfbaaLive
import Derived.Test.YtjkpdhcnklgfbaaRFill
import Derived.Test.YtjkpdhcnklgfbaaInts
import Derived.Test.YtjkpdhcnklgfbaaCount
namespace Go.Proofs.Ytjkpdhcnklgfbaa
open Go.RowKit Go.Bs Go.ChangeShapes Go.WideShapes Go.ChangeAt Go.Joins Go.Qrv Go.Lay Go.Bch

/-- What Fill and Extract return. -/
def flAll (W H : Int) (n : Nat) (xs : List Bool) (ws : List Int) : (Int × Int × List Bool) × Int := if mcode W H n = 0 then fillRes (((W - 17) / 4).toNat) xs ws else ((0, 0, []), mcode W H n)
def exAll (W H : Int) (n : Nat) (xs : List Bool) : List Int × Int := if mcode W H n = 0 then wordsRes (exL (((W - 17) / 4).toNat) xs) 8 false else ([], mcode W H n)
theorem fill_all (W H : Int) (xs : List Bool) (ao : Option Addr) (n cap : Nat) (ws : List Int) (wo : Option Addr) (wl wc : Nat) (w : World) (hl : xs.length = n) (hn0 : ao = none → cap = 0) (hr : Row w ao (bools xs))
    (hwl : ws.length = wl) (hwb : wl ≤ 1048576) (hwc : wl ≤ wc) (hwr : Row w wo (ints ws)) :
    Calls Try.prog 30 #[.agg (matV W H ao n cap), .slice wo wl wc] w (RetMat 4 w (flAll W H n xs ws)) := by
  by_cases hc : mcode W H n = 0
  · obtain ⟨v, h1, h2, rfl, rfl, rfl⟩ := mcode_ok hc
    rw [show flAll (sd v) (sd v) (sd v * sd v) xs ws = fillRes v xs ws from by unfold flAll; rw [if_pos hc, side_ver]]
    exact fill_ok v h1 h2 xs ao cap ws wo wl wc w hl hn0 hr hwl hwb hwc hwr
  · rw [show flAll W H n xs ws = ((0, 0, []), mcode W H n) from by unfold flAll; rw [if_neg hc]]
    exact fill_no W H ao n cap _ w hc
theorem rfill_all (W H : Int) (xs : List Bool) (ao : Option Addr) (n cap : Nat) (ws : List Int) (wo : Option Addr) (wl wc : Nat) (w : World) (hl : xs.length = n) (hn0 : ao = none → cap = 0) (hr : Row w ao (bools xs))
    (hwl : ws.length = wl) (hwb : wl ≤ 1048576) (hwr : Row w wo (ints ws)) :
    Calls Try.prog 31 #[.agg (matV W H ao n cap), .slice wo wl wc] w (RetMat 4 w (flAll W H n xs ws)) := by
  by_cases hc : mcode W H n = 0
  · obtain ⟨v, h1, h2, rfl, rfl, rfl⟩ := mcode_ok hc
    rw [show flAll (sd v) (sd v) (sd v * sd v) xs ws = fillRes v xs ws from by unfold flAll; rw [if_pos hc, side_ver]]
    exact rfill_ok v h1 h2 xs ao cap ws wo wl wc w hl hn0 hr hwl hwb hwr
  · rw [show flAll W H n xs ws = ((0, 0, []), mcode W H n) from by unfold flAll; rw [if_neg hc]]
    exact rfill_no W H ao n cap _ w hc
theorem extract_all (W H : Int) (xs : List Bool) (ao : Option Addr) (n cap : Nat) (w : World) (hl : xs.length = n) (hr : Row w ao (bools xs)) :
    Calls Try.prog 32 #[.agg (matV W H ao n cap)] w (RetSl w (ints (exAll W H n xs).1, (exAll W H n xs).2)) := by
  by_cases hc : mcode W H n = 0
  · obtain ⟨v, h1, h2, rfl, rfl, rfl⟩ := mcode_ok hc
    rw [show exAll (sd v) (sd v) (sd v * sd v) xs = wordsRes (exL v xs) 8 false from by unfold exAll; rw [if_pos hc, side_ver]]
    exact extract_ok v h1 h2 xs ao cap w hl hr
  · rw [show exAll W H n xs = ([], mcode W H n) from by unfold exAll; rw [if_neg hc]]
    exact extract_no W H ao n cap w hc
theorem rextract_all (W H : Int) (xs : List Bool) (ao : Option Addr) (n cap : Nat) (w : World) (hl : xs.length = n) (hr : Row w ao (bools xs)) :
    Calls Try.prog 33 #[.agg (matV W H ao n cap)] w (RetSl w (ints (exAll W H n xs).1, (exAll W H n xs).2)) := by
  by_cases hc : mcode W H n = 0
  · obtain ⟨v, h1, h2, rfl, rfl, rfl⟩ := mcode_ok hc
    rw [show exAll (sd v) (sd v) (sd v * sd v) xs = wordsRes (exL v xs) 8 false from by unfold exAll; rw [if_pos hc, side_ver]]
    exact rextract_ok v h1 h2 (Go.Cnt.path_room v h1 h2) xs ao cap w hl hr
  · rw [show exAll W H n xs = ([], mcode W H n) from by unfold exAll; rw [if_neg hc]]
    exact rextract_no W H ao n cap w hc
theorem flAll_len (W H : Int) (n : Nat) (xs : List Bool) (ws : List Int) (hl : xs.length = n) : (flAll W H n xs ws).1.2.2.length ≤ n := by
  unfold flAll fillRes
  split
  · split
    · exact Nat.zero_le _
    · split
      · show (flL _ _ _ _).length ≤ n
        rw [flL_len, hl]
        exact Nat.le_refl _
      · exact Nat.zero_le _
  · exact Nat.zero_le _

theorem exAll_len (W H : Int) (n : Nat) (xs : List Bool) : (exAll W H n xs).1.length ≤ 4000 := by
  unfold exAll
  split
  · rename_i hc
    obtain ⟨v, h1, h2, rfl, -, -⟩ := mcode_ok hc
    rw [side_ver, wordsRes_2 (by omega)]
    show (wordsTo _ _ _ _).length ≤ 4000
    have hk := wordsN_le v h2
    have he : (exL v xs).length ≤ 8 * wordsN v := by unfold exL; rw [exB_len, List.length_take]; omega
    rw [show (8 : Int).toNat = 8 from rfl]
    unfold wordsTo
    rw [List.length_map, List.length_range]
    omega
  · exact Nat.zero_le _

set_option maxRecDepth 20000 in
set_option maxHeartbeats 2000000 in
theorem qrlayoutFills_walk (W H : Int) (ao : Option Addr) (len cap : Nat) (xs : List Bool) (wo : Option Addr) (wl wc : Nat) (ws : List Int) (w : World) (_ : -9223372036854775808 ≤ W ∧ W ≤ 9223372036854775807) (_ : -9223372036854775808 ≤ H ∧ H ≤ 9223372036854775807)
    (hl : xs.length = len) (_ : len ≤ cap) (_ : cap ≤ 9223372036854775807) (hn : ao = none → cap = 0) (hr : Row w ao (bools xs)) (hwl : ws.length = wl) (hwc : wl ≤ wc) (_ : wc ≤ 9223372036854775807) (_ : wo = none → wc = 0) (hwr : Row w wo (ints ws)) (_ : ∀ n ∈ ws, -9223372036854775808 ≤ n ∧ n ≤ 9223372036854775807) :
    Calls Try.prog 8 #[.agg #[.int .i64 W, .int .i64 H, .slice ao len cap], .slice wo wl wc] w fun e w' => e = .returned (.bool true) ∧ Ext w w' := by
  have HSM := fun (V : World) => Lib.hid (small20_any W H ao len cap V)
  unfold matV at HSM
  obtain ⟨W1, hW1⟩ : ∃ W1, W1 = w.alloc (.cells #[.int .i64 W, .int .i64 H, .slice ao len cap] 24) := ⟨_, rfl⟩
  have HX1 : Hid (Ext w W1) := by rw [hW1]; exact Ext.alloc _ _
  have HBX : Hid (∀ V, Ext W1 V → V.cell? ⟨w.heap.size, 0, none⟩ = some (.int .i64 W) ∧ V.cell? ⟨w.heap.size, 1, none⟩ = some (.int .i64 H) ∧ V.cell? ⟨w.heap.size, 2, none⟩ = some (.slice ao len cap) ∧ w.heap.size < V.heap.size) := by
    intro V hv
    rw [hW1] at hv
    obtain ⟨a, b, c⟩ := box3 hv
    exact ⟨a, b, c, World.block_lt_of_cell? V ⟨w.heap.size, 0, none⟩ a⟩
  have HW1 := Lib.hid hW1
  have HR := Lib.hid hr
  have HWR := Lib.hid hwr
  by_cases hs : (len : Int) ≤ 40000
  · rw [decide_eq_true hs] at HSM
    by_cases hw4 : (wl : Int) ≤ 4000
    · have HBL := fun (V : World) (h : Row V ao (bools xs)) (h' : Row V wo (ints ws)) => Lib.hid (fill_all W H xs ao len cap ws wo wl wc V hl hn h hwl (by omega) hwc h')
      have HRB := fun (V : World) (h : Row V ao (bools xs)) (h' : Row V wo (ints ws)) => Lib.hid (rfill_all W H xs ao len cap ws wo wl wc V hl hn h hwl (by omega) h')
      have HFA := fun (V : World) (h : Row V ao (bools xs)) => Lib.hid (extract_all W H xs ao len cap V hl h)
      have HRF := fun (V : World) (h : Row V ao (bools xs)) => Lib.hid (rextract_all W H xs ao len cap V hl h)
      have hbl := flAll_len W H len xs ws hl
      unfold RetMat at HBL HRB
      unfold RetSl at HFA HRF
      unfold matV at *
      have hel := exAll_len W H len xs
      generalize exAll W H len xs = F at HFA HRF hel
      obtain ⟨f1, f2⟩ := F
      generalize flAll W H len xs ws = B at HBL HRB hbl
      obtain ⟨⟨bw, bh, bx⟩, be⟩ := B
      simp only [length_ints] at HBL HRB HFA HRF hbl hel
      have HSS := fun (ao bo : Option Addr) (ca cb : Nat) (V : World) (h1 : Row V ao (bools bx)) (h2 : Row V bo (bools bx)) => Lib.hid (same_same bw bh ao bo _ ca cb bx V rfl (by omega) h1 h2)
      unfold matV at HSS
      have HII := fun (ao bo : Option Addr) (ca cb : Nat) (V : World) (hb : f1.length ≤ 4611686018427387904) (h1 : Row V ao (ints f1)) (h2 : Row V bo (ints f1)) => Lib.hid (ints_any ao bo _ ca _ cb f1 f1 V rfl rfl hb h1 h2)
      simp only [beq_self_eq_true] at HII
      generalize bx.length = q at *
      clear hl hbl hn hr hW1 hwl hwr
      go_enter Try.func8, Try.ntmps8
      go_wp2_with fail
      rw [← HW1.out]
      refine (HSM _).out.mono ?_
      rintro e w2 ⟨rfl, hx2⟩
      have HX2 := Lib.hid hx2
      obtain ⟨z0, z1, z2, z3⟩ := HBX.out w2 hx2
      clear hx2
      go_wp2_with fail
      refine (HBL _ (HR.out.ext (HX1.out.trans HX2.out)) (HWR.out.ext (HX1.out.trans HX2.out))).out.mono ?_
      rintro e w3 ⟨s3, rfl, ho3, hx3⟩
      obtain ⟨a3, c3, rfl, l3, m3, -, r3⟩ := own_row ho3
      have HX3 := Lib.hid (HX2.out.trans hx3)
      have HR3 := Lib.hid r3
      clear ho3 hx3 r3 z0 z1 z2 z3
      obtain ⟨z0, z1, z2, z3⟩ := HBX.out w3 HX3.out
      go_wp2_with fail
      refine (HRB _ (HR.out.ext (HX1.out.trans (HX3.out.trans (Ext.alloc _ _)))) (HWR.out.ext (HX1.out.trans (HX3.out.trans (Ext.alloc _ _))))).out.mono ?_
      rintro e w4 ⟨s4, rfl, ho4, hx4⟩
      obtain ⟨a4, c4, rfl, l4, m4, -, r4⟩ := own_row ho4
      have HX4 := Lib.hid (HX3.out.trans ((Ext.alloc _ _).trans hx4))
      have HR34 := Lib.hid (HR3.out.ext ((Ext.alloc w3 (.cells #[.int .i64 bw, .int .i64 bh, .slice a3 q c3] 24)).trans hx4))
      have HR4 := Lib.hid r4
      have HY3 := Lib.hid hx4
      clear ho4 hx4 r4 z0 z1 z2 z3
      obtain ⟨z0, z1, z2, z3⟩ := HBX.out w4 HX4.out
      go_wp2_with fail
      refine (HFA _ (HR.out.ext (HX1.out.trans (HX4.out.trans (Ext.alloc _ _))))).out.mono ?_
      rintro e w5 ⟨a5, c5, rfl, r5, l5, m5, -, hx5⟩
      have HX5 := Lib.hid (HX4.out.trans ((Ext.alloc _ _).trans hx5))
      have HY5 := Lib.hid hx5
      have HR5 := Lib.hid r5
      clear hx5 r5 z0 z1 z2 z3
      obtain ⟨z0, z1, z2, z3⟩ := HBX.out w5 HX5.out
      go_wp2_with fail
      refine (HRF _ (HR.out.ext (HX1.out.trans HX5.out))).out.mono ?_
      rintro e w6 ⟨a6, c6, rfl, r6, l6, m6, -, hx6⟩
      have HX6 := Lib.hid (HX5.out.trans hx6)
      have HY6 := Lib.hid (HY5.out.trans hx6)
      have HR56 := Lib.hid (HR5.out.ext hx6)
      have HR6 := Lib.hid r6
      clear hx6 r6 z0 z1 z2 z3
      obtain ⟨y0, y1, y2⟩ := box3 HY6.out
      obtain ⟨x0, x1, x2⟩ := box3 (HY3.out.trans ((Ext.alloc w4 _).trans HY6.out))
      go_wp2_with fail
      refine (HSS a3 a4 c3 c4 _ (HR34.out.ext ((Ext.alloc w4 _).trans HY6.out)) (HR4.out.ext ((Ext.alloc w4 _).trans HY6.out))).out.mono ?_
      rintro e w7 ⟨rfl, hx7⟩
      have HX7 := Lib.hid (HX6.out.trans hx7)
      have HY7 := Lib.hid hx7
      clear hx7 y0 y1 y2 x0 x1 x2
      go_wp2_with fail
      refine (HII a5 a6 c5 c6 _ (by omega) (HR56.out.ext HY7.out) (HR6.out.ext HY7.out)).out.mono ?_
      rintro e w8 ⟨rfl, hx8⟩
      have HX8 := Lib.hid (HX7.out.trans hx8)
      clear hx8
      go_wp2_with fail
      refine (alive20_any _).mono ?_
      rintro e w9 ⟨rfl, hx9⟩
      go_wp2_with fail
      go_ret
      exact ⟨rfl, HX1.out.trans (HX8.out.trans hx9)⟩
    · have hw4' : 4000 < (wl : Int) := by omega
      clear hs hl hn hr hW1 hwl hwc hwr hw4
      go_enter Try.func8, Try.ntmps8
      go_wp2_with fail
      rw [← HW1.out]
      refine (HSM _).out.mono ?_
      rintro e w2 ⟨rfl, hx2⟩
      have HX2 := Lib.hid hx2
      clear hx2
      go_wp2_with fail
      refine (alive20_any _).mono ?_
      rintro e w3 ⟨rfl, hx3⟩
      go_wp2_with fail
      go_ret
      exact ⟨rfl, HX1.out.trans (HX2.out.trans hx3)⟩
  · have hs' : decide ((len : Int) ≤ 40000) = false := decide_eq_false hs
    rw [hs'] at HSM
    clear hs hs' hl hn hr hW1 hwl hwc hwr
    go_enter Try.func8, Try.ntmps8
    go_wp2_with fail
    rw [← HW1.out]
    refine (HSM _).out.mono ?_
    rintro e w2 ⟨rfl, hx2⟩
    have HX2 := Lib.hid hx2
    clear hx2
    go_wp2_with fail
    refine (alive20_any _).mono ?_
    rintro e w3 ⟨rfl, hx3⟩
    go_wp2_with fail
    go_ret
    exact ⟨rfl, HX1.out.trans (HX2.out.trans hx3)⟩

set_option maxRecDepth 100000 in
theorem qrlayoutFills_lifted (os : Os) (started : os.Started) (H : Type) (enc : TypeId × Value → H) :
    ReturnsInHanded {} Try.checked os 8 .any (Rows.qrlayoutFillsSpec.pre6 enc Try.prog Try.f8 Rows.qrlayoutFillsRow.domain false) (Rows.qrlayoutFillsSpec.post enc Try.prog Try.f8 false true false false) := by
  refine returnsInHanded_of_change (C := Try.checked) Try.own started (by kernel_rfl) Try.func8
    (ChangeSpec.witness6 (enc := enc) (C := Try.checked) false ⟨#[], #[.agg #[.int .i64 0, .int .i64 0, .slice none 0 0], .slice none 0 0], []⟩ 8 (by kernel_rfl) (by kernel_rfl) (by kernel_rfl) (by kernel_rfl)) ?_
  intro W base args ds gs before hval0 hW _ _
  have hval : ∀ (j : Nat) t v, Try.f8.params[j]? = some t → args[j]? = some v → Value.okWide Try.prog W .any base t v := hval0
  have hW' := hW
  obtain ⟨p, q, hA0, hV, rfl, _, _⟩ := hW
  have hA : DataW.TrodAll enc Try.prog W 0 (fun _ => true) true Try.f8.params.toList args.toList ds p := hA0
  rw [Try.params8] at hA hval
  obtain ⟨rfl, rfl⟩ := trodVars_none hV
  clear hA0 hval0
  simp only [List.append_nil] at hW'
  have hlt : ∀ x ∈ p, x.block < W.heap.size := fun x hx => by simpa using hW'.lt x hx
  have hstay : ∀ W', Below W.heap.size W W' → _ := fun W' hb => args_stay (enc := enc) Try.laidOut hb _ _ _ _ (by kernel_rfl) hA hlt
  obtain ⟨v0, v1, d0, d1, p0, p1, rfl, rfl, rfl, h0, h1⟩ := trodAll_two hA
  obtain ⟨c0_0, c0_1, c0_2, y0_0, y0_1, y0_2, m0, rfl, rfl, rfl, hy0_0, hy0_1, hy0_2⟩ := open_agg3 Try.underlying24 (by kernel_rfl) (by kernel_rfl) (hval 0 24 v0 rfl rfl) h0
  obtain ⟨x0, ex0, _, wx0⟩ := DataW.trod_int Try.underlying3 hy0_0
  simp at ex0
  subst ex0
  obtain ⟨x1, ex1, _, wx1⟩ := DataW.trod_int Try.underlying3 hy0_1
  simp at ex1
  subst ex1
  obtain ⟨xs2, ao2', len2', cap2', hv2, hl2, hc2, hm2, hn2, hr2⟩ := view_bools Try.underlying22 Try.underlying4 Try.cellsBool hy0_2
  subst hv2
  obtain ⟨ao3, len3, cap3, rfl⟩ := okWide_slice Try.underlying60 (hval 1 60 v1 rfl rfl)
  obtain ⟨fuel3, hf3⟩ := h1
  obtain ⟨xs3, ⟨ao3', len3', cap3', hv3, hl3, hc3, hm3, hn3, hr3⟩, hw3⟩ := view_nums Try.underlying60 Try.underlying3 Try.cellsInt hf3
  cases hv3
  refine (qrlayoutFills_walk x0 x1 ao2' len2' cap2' xs2 ao3 len3 cap3 xs3 W (wf_i64_bd wx0) (wf_i64_bd wx1) (by rw [length_bools] at hl2; exact hl2) hc2 hm2 hn2 hr2 (by rw [List.length_map] at hl3; exact hl3) hc3 hm3 hn3 hr3 (fun n hn => wf_i64_bd (hw3 n hn))).mono fun e W' ⟨he, hb⟩ => ?_
  subst he
  exact ⟨_, rfl, _, _, _, [], _, [], hW', trodAll_mk1 (shut_bool Try.underlying4 _), hstay W' hb, rfl, hb.frame _, fun h => by cases h⟩

theorem qrlayoutFills_holds : Rows.QrlayoutFillsSaid :=
  OpenClaim.holds_of_wide 8 Try.f8 rfl rfl rfl rfl rfl rfl rfl ⟨rfl, rfl, rfl, rfl, rfl⟩ rfl rfl rfl rfl rfl (by kernel_rfl) Try.func8 (by kernel_rfl)
    (of_decide_eq_true (by kernel_rfl)) (by unfold Func.isWrapper; first | (rw [if_pos (by decide +kernel)]; kernel_rfl) | (rw [if_neg (by decide +kernel)]; exact ⟨rfl, rfl⟩))
    (fun os started H enc _ => qrlayoutFills_lifted os started H enc)


end Go.Proofs.Ytjkpdhcnklgfbaa
