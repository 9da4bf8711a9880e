/-
  For every input QrlayoutReturns returns true, and each argument reads afterwards as it read before (Rows.QrlayoutReturnsSaid).
  No condition.
-/
import Derived.Test.YtjkpdhcnklgfbaaLive
import Derived.Test.YtjkpdhcnklgfbaaBack
import Derived.Test.YtjkpdhcnklgfbaaInts
namespace Go.Proofs.Ytjkpdhcnklgfbaa
open Go.RowKit Go.Bs Go.ChangeShapes Go.WideShapes Go.ChangeAt Go.Joins Go.Qrv Go.Lay Go.Bch

/-- Fill's error, or what it fills in. -/
theorem fill_cases (n : Nat) (xs : List Bool) (ws : List Int) : (∃ e : Int, e ≠ 0 ∧ fillRes n xs ws = ((0, 0, []), e)) ∨
    (ws.length = wordsN n ∧ ws.all (okw 8) = true ∧ fillRes n xs ws = (((sd n : Int), (sd n : Int), flL (sd n) (pathN n) (fromTo ws 8 ws.length) xs), (0 : Int))) := by
  unfold fillRes
  by_cases h : (ws.length : Int) ≠ wordsN n
  · rw [if_pos h]
    exact .inl ⟨7, by decide, rfl⟩
  · rw [if_neg h]
    by_cases h' : ws.all (okw 8) = true
    · rw [if_pos h']
      exact .inr ⟨by omega, h', rfl⟩
    · rw [if_neg h']
      exact .inl ⟨3, by decide, rfl⟩

theorem own_row0 {w : World} {B : Nat} {e : TypeId} {v : Value} {n : Nat} {xs : List Value} (h : w.ownsRow B e 1 v n xs) (hn : 0 < n) :
    ∃ g cap, v = .slice (some ⟨g, 0, none⟩) n cap ∧ n ≤ cap ∧ Row w (some ⟨g, 0, none⟩) xs := by
  rcases h.2 with ⟨rfl, rfl⟩ | ⟨g, cap, cur, rfl, hb, hg, hnc, hcm, hcs, htake⟩
  · omega
  · exact ⟨g, cap, rfl, hnc, fun i u hi => ⟨_, rfl, h.cells (g := g) rfl i u hi⟩⟩


set_option maxRecDepth 20000 in
set_option maxHeartbeats 4000000 in
theorem qrlayoutReturns_walk (W H : Int) (ao : Option Addr) (len cap : Nat) (xs : List Bool) (wo : Option Addr) (wl wc : Nat) (ws : List Int) (m : Int) (w : World) (_ : -9223372036854775808 ≤ W ∧ W ≤ 9223372036854775807) (_ : -9223372036854775808 ≤ H ∧ H ≤ 9223372036854775807)
    (hl : xs.length = len) (hlc : len ≤ cap) (_ : cap ≤ 9223372036854775807) (hn : ao = none → cap = 0) (hr : Row w ao (bools xs)) (hwl : ws.length = wl) (hwc : wl ≤ wc) (_ : wc ≤ 9223372036854775807) (_ : wo = none → wc = 0) (hwr : Row w wo (ints ws)) (_ : ∀ n ∈ ws, -9223372036854775808 ≤ n ∧ n ≤ 9223372036854775807) (_ : -9223372036854775808 ≤ m ∧ m ≤ 9223372036854775807) :
    Calls Try.prog 9 #[.agg #[.int .i64 W, .int .i64 H, .slice ao len cap], .slice wo wl wc, .int .i64 m] w fun e w' => e = .returned (.bool true) ∧ Ext w w' := by
  have HSM := fun (V : World) => Lib.hid (small20_any W H ao len cap V)
  unfold matV at HSM
  obtain ⟨W1, hW1⟩ : ∃ W1, W1 = w.alloc (.cells #[.int .i64 W, .int .i64 H, .slice ao len cap] 24) := ⟨_, rfl⟩
  have HX1 : Hid (Ext w W1) := by rw [hW1]; exact Ext.alloc _ _
  have HBX : Hid (∀ V, Ext W1 V → V.cell? ⟨w.heap.size, 0, none⟩ = some (.int .i64 W) ∧ V.cell? ⟨w.heap.size, 1, none⟩ = some (.int .i64 H) ∧ V.cell? ⟨w.heap.size, 2, none⟩ = some (.slice ao len cap) ∧ w.heap.size < V.heap.size) := by
    intro V hv
    rw [hW1] at hv
    obtain ⟨a, b, c⟩ := box3 hv
    exact ⟨a, b, c, World.block_lt_of_cell? V ⟨w.heap.size, 0, none⟩ a⟩
  have HW1 := Lib.hid hW1
  have HR := Lib.hid hr
  have HWR := Lib.hid hwr
  by_cases hc : mcode W H len = 0
  · obtain ⟨v, h1, h2, rfl, rfl, rfl⟩ := mcode_ok hc
    have hsb : 21 ≤ sd v ∧ sd v ≤ 177 := by unfold sd; omega
    have hQb : 441 ≤ sd v * sd v ∧ sd v * sd v ≤ 31329 := ⟨Nat.mul_le_mul hsb.1 hsb.1, Nat.mul_le_mul hsb.2 hsb.2⟩
    have HVE := fun (V : World) => Lib.hid (rversion20_ok v h1 h2 ao cap V)
    unfold matV two at HVE
    simp only at HVE
    rw [decide_eq_true (show ((sd v * sd v : Nat) : Int) ≤ 40000 by omega)] at HSM
    by_cases hw4 : (wl : Int) ≤ 4000
    · rcases fill_cases v xs ws with ⟨e0, he0, hfe⟩ | ⟨hwn, hall, hfe⟩
      · have HBL := fun (V : World) (h : Row V ao (bools xs)) (h' : Row V wo (ints ws)) => Lib.hid (fill_ok v h1 h2 xs ao cap ws wo wl wc V hl hn h hwl (by omega) hwc h')
        rw [hfe] at HBL
        unfold RetMat matV at HBL
        simp only [List.length_nil] at HBL
        have he1 : (e0 != 0) = true := by simpa using he0
        generalize sd v * sd v = Q at *
        clear hl hlc hn hr hW1 hwl hwr hfe hc he0
        go_enter Try.func9, Try.ntmps9
        go_wp2_with fail
        rw [← HW1.out]
        refine (HVE _).out.mono ?_
        rintro e w1 ⟨rfl, hx1⟩
        have HX2 := Lib.hid hx1
        obtain ⟨z0, z1, z2, z3⟩ := HBX.out w1 hx1
        clear hx1
        go_wp2_with fail
        refine (HSM _).out.mono ?_
        rintro e w2 ⟨rfl, hx2⟩
        have HX3 := Lib.hid (HX2.out.trans hx2)
        clear hx2 z0 z1 z2 z3
        obtain ⟨z0, z1, z2, z3⟩ := HBX.out w2 HX3.out
        go_wp2_with fail
        refine (HBL _ (HR.out.ext (HX1.out.trans HX3.out)) (HWR.out.ext (HX1.out.trans HX3.out))).out.mono ?_
        rintro e w3 ⟨s3, rfl, ho3, hx3⟩
        obtain ⟨a3, c3, rfl, l3, m3, -, r3⟩ := own_row ho3
        have HX4 := Lib.hid (HX3.out.trans hx3)
        clear ho3 hx3 r3 z0 z1 z2 z3
        go_wp2_with fail
        refine (alive20_any _).mono ?_
        rintro e w4 ⟨rfl, hx4⟩
        go_wp2_with fail
        go_ret
        exact ⟨rfl, HX1.out.trans (HX4.out.trans ((Ext.alloc _ _).trans hx4))⟩
      · have HBL := fun (V : World) (h : Row V ao (bools xs)) (h' : Row V wo (ints ws)) => Lib.hid (fill_ok v h1 h2 xs ao cap ws wo wl wc V hl hn h hwl (by omega) hwc h')
        rw [hfe] at HBL
        have hla : (flL (sd v) (pathN v) (fromTo ws 8 ws.length) xs).length = sd v * sd v := by rw [flL_len, hl]
        unfold RetMat matV at HBL
        simp only [hla] at HBL
        by_cases hm : 0 ≤ m ∧ m ≤ 7
        · obtain ⟨mk, rfl⟩ := Int.eq_ofNat_of_zero_le hm.1
          have hmk : mk ≤ 7 := by omega
          have hfm : fmtRes 3 (mk : Int) = (((Go.Back.fw 3 mk : Nat) : Int), (0 : Int)) := Go.Back.fmt_nat (l := 3) (by decide) (by decide) hmk
          have hsg : ∀ ys, sgRes v ys 3 (mk : Int) = (((sd v : Int), (sd v : Int), signN v (Go.Back.fw 3 mk : Nat) ys), (0 : Int)) := fun ys => by rw [sgRes_1 (by rw [hfm]), hfm]
          have hlc' : (signN v (Go.Back.fw 3 mk : Nat) xs).length = sd v * sd v := by rw [signN_len, hl]
          have hlb : (signN v (Go.Back.fw 3 mk : Nat) (flL (sd v) (pathN v) (fromTo ws 8 ws.length) xs)).length = sd v * sd v := by rw [signN_len, hla]
          have hfb : fillRes v (signN v (Go.Back.fw 3 mk : Nat) xs) ws = (((sd v : Int), (sd v : Int), signN v (Go.Back.fw 3 mk : Nat) (flL (sd v) (pathN v) (fromTo ws 8 ws.length) xs)), (0 : Int)) := by
            rw [Go.Back.sign_fill h1 h2]
            rcases fill_cases v (signN v (Go.Back.fw 3 mk : Nat) xs) ws with ⟨e, he, hf⟩ | ⟨_, _, hf⟩
            · unfold fillRes at hf
              rw [if_neg (by omega), if_pos hall] at hf
              exact absurd (congrArg Prod.snd hf).symm he
            · exact hf
          have hex : exL v (signN v (Go.Back.fw 3 mk : Nat) (flL (sd v) (pathN v) (fromTo ws 8 ws.length) xs)) = fromTo ws 8 ws.length := by
            rw [Go.Back.sign_fill h1 h2]
            exact Go.Back.ex_fill h1 h2 _ _ hlc' (by rw [length_fromTo _ _ _ (Nat.le_refl _), hwn, Nat.mul_comm])
          have hfl := Go.Back.flt_same h1 h2 (Go.Back.fw 3 mk : Nat) (fromTo ws 8 ws.length) xs (sd v * sd v)
          have hrd := Go.Back.rd_sign h1 h2 (l := 3) (by decide) (by decide) hmk (flL (sd v) (pathN v) (fromTo ws 8 ws.length) xs) hla
          have HSA := fun (V : World) (a : Option Addr) (c : Nat) (hn0 : a = none → c = 0) (h : Row V a (bools (flL (sd v) (pathN v) (fromTo ws 8 ws.length) xs))) => Lib.hid (sign_ok v h1 h2 _ a c 3 (mk : Int) V hla hn0 h)
          have HSM2 := fun (V : World) (h : Row V ao (bools xs)) => Lib.hid (sign_ok v h1 h2 xs ao cap 3 (mk : Int) V hl hn h)
          have HFC := fun (V : World) (a : Option Addr) (c : Nat) (hn0 : a = none → c = 0) (h : Row V a (bools (signN v (Go.Back.fw 3 mk : Nat) xs))) (h' : Row V wo (ints ws)) => Lib.hid (fill_ok v h1 h2 _ a c ws wo wl wc V hlc' hn0 h hwl (by omega) hwc h')
          have HEX := fun (V : World) (a : Option Addr) (c : Nat) (h : Row V a (bools (signN v (Go.Back.fw 3 mk : Nat) (flL (sd v) (pathN v) (fromTo ws 8 ws.length) xs)))) => Lib.hid (extract_ok v h1 h2 _ a c V hlb h)
          have HFM := fun (V : World) (h : Row V ao (bools xs)) => Lib.hid (faults_ok v h1 h2 xs ao cap V hl hlc h)
          have HFB := fun (V : World) (a : Option Addr) (c : Nat) (hc : sd v * sd v ≤ c) (h : Row V a (bools (signN v (Go.Back.fw 3 mk : Nat) (flL (sd v) (pathN v) (fromTo ws 8 ws.length) xs)))) => Lib.hid (faults_ok v h1 h2 _ a c V hlb hc h)
          have HRD := fun (V : World) (a : Option Addr) (c : Nat) (h : Row V a (bools (signN v (Go.Back.fw 3 mk : Nat) (flL (sd v) (pathN v) (fromTo ws 8 ws.length) xs)))) => Lib.hid (read_ok v h1 h2 _ a c V hlb h)
          have HSS := fun (a b : Option Addr) (ca cb : Nat) (V : World) (h : Row V a (bools (signN v (Go.Back.fw 3 mk : Nat) (flL (sd v) (pathN v) (fromTo ws 8 ws.length) xs)))) (h' : Row V b (bools (signN v (Go.Back.fw 3 mk : Nat) (flL (sd v) (pathN v) (fromTo ws 8 ws.length) xs)))) => Lib.hid (same_same (sd v) (sd v) a b (sd v * sd v) ca cb _ V hlb (by omega) h h')
          have HII := fun (a : Option Addr) (ca : Nat) (V : World) (h : Row V a (ints ws)) (h' : Row V wo (ints ws)) => Lib.hid (ints_any a wo wl ca wl wc ws ws V hwl hwl (by omega) h h')
          simp only [beq_self_eq_true] at HII
          rw [hsg] at HSM2
          simp only [hsg] at HSA
          simp only [hfb] at HFC
          simp only [hex, Go.Back.words_from ws hall] at HEX
          rw [hfl] at HFB
          simp only [hrd] at HRD
          unfold RetMat matV at HSA HSM2 HFC
          unfold RetSl matV at HEX
          unfold matV two at HFM HFB
          unfold matV four at HRD
          unfold matV at HSS
          simp only [hlb] at HSA
          rw [hlc'] at HSM2
          simp only [hlb] at HFC
          clear hrd hfl hex hfb hsg hfm
          generalize signN v (Go.Back.fw 3 mk : Nat) (flL (sd v) (pathN v) (fromTo ws 8 ws.length) xs) = xb at *
          generalize signN v (Go.Back.fw 3 mk : Nat) xs = xc at *
          generalize flL (sd v) (pathN v) (fromTo ws 8 ws.length) xs = xa at *
          simp only [length_ints, hwl] at HEX
          generalize fltN v xs (sd v * sd v) = FN at *
          generalize sd v * sd v = Q at *
          clear hl hn hr hW1 hwl hwr hfe hc hm hla hlb hlc' hall hwn
          go_enter Try.func9, Try.ntmps9
          go_wp2_with fail
          rw [← HW1.out]
          refine (HVE _).out.mono ?_
          rintro e w1 ⟨rfl, hx1⟩
          have HX2 := Lib.hid hx1
          obtain ⟨z0, z1, z2, z3⟩ := HBX.out w1 hx1
          clear hx1
          go_wp2_with fail
          refine (HSM _).out.mono ?_
          rintro e w2 ⟨rfl, hx2⟩
          have HX3 := Lib.hid (HX2.out.trans hx2)
          clear hx2 z0 z1 z2 z3
          obtain ⟨z0, z1, z2, z3⟩ := HBX.out w2 HX3.out
          go_wp2_with fail
          refine (HBL _ (HR.out.ext (HX1.out.trans HX3.out)) (HWR.out.ext (HX1.out.trans HX3.out))).out.mono ?_
          rintro e w3 ⟨s3, rfl, ho3, hx3⟩
          obtain ⟨g3, c3, rfl, l3, r3⟩ := own_row0 ho3 (by omega)
          have HX4 := Lib.hid (HX3.out.trans hx3)
          have HR3 := Lib.hid r3
          clear ho3 hx3 r3 z0 z1 z2 z3
          go_wp2_with fail
          refine (HSA _ _ c3 (fun e => by cases e) (HR3.out.ext (Ext.alloc _ _))).out.mono ?_
          rintro e w4 ⟨s4, rfl, ho4, hx4⟩
          obtain ⟨g4, c4, rfl, l4, r4⟩ := own_row0 ho4 (by omega)
          have HX5 := Lib.hid (HX4.out.trans ((Ext.alloc _ _).trans hx4))
          have HR4 := Lib.hid r4
          clear ho4 hx4 r4
          obtain ⟨z0, z1, z2, z3⟩ := HBX.out w4 HX5.out
          go_wp2_with fail
          refine (HSM2 _ (HR.out.ext (HX1.out.trans (HX5.out.trans (Ext.alloc _ _))))).out.mono ?_
          rintro e w5 ⟨s5, rfl, ho5, hx5⟩
          obtain ⟨g5, c5, rfl, l5, r5⟩ := own_row0 ho5 (by omega)
          have HYB := Lib.hid hx5
          have HX6 := Lib.hid (HX5.out.trans ((Ext.alloc _ _).trans hx5))
          have HR5 := Lib.hid r5
          clear ho5 hx5 r5 z0 z1 z2 z3
          go_wp2_with fail
          refine (HFC _ _ c5 (fun e => by cases e) (HR5.out.ext (Ext.alloc _ _)) (HWR.out.ext (HX1.out.trans (HX6.out.trans (Ext.alloc _ _))))).out.mono ?_
          rintro e w6 ⟨s6, rfl, ho6, hx6⟩
          obtain ⟨g6, c6, rfl, l6, r6⟩ := own_row0 ho6 (by omega)
          have HYB6 := Lib.hid (HYB.out.trans ((Ext.alloc _ _).trans hx6))
          have HX7 := Lib.hid (HX6.out.trans ((Ext.alloc _ _).trans hx6))
          have HR6 := Lib.hid r6
          clear ho6 hx6 r6 HYB
          obtain ⟨y0, y1, y2⟩ := box3 HYB6.out
          have y3 : w4.heap.size < w6.heap.size := World.block_lt_of_cell? w6 ⟨w4.heap.size, 0, none⟩ y0
          go_wp2_with fail
          refine (HEX _ _ c4 (HR4.out.ext ((Ext.alloc _ _).trans (HYB6.out.trans (Ext.alloc _ _))))).out.mono ?_
          rintro e w7 ⟨a7, c7, rfl, r7, l7, m7, -, hx7⟩
          have HYB7 := Lib.hid (HYB6.out.trans ((Ext.alloc _ _).trans hx7))
          have HYD7 := Lib.hid hx7
          have HX8 := Lib.hid (HX7.out.trans ((Ext.alloc _ _).trans hx7))
          have HR7 := Lib.hid r7
          clear hx7 r7 y0 y1 y2 y3
          obtain ⟨z0, z1, z2, z3⟩ := HBX.out w7 HX8.out
          go_wp2_with fail
          refine (HFM _ (HR.out.ext (HX1.out.trans HX8.out))).out.mono ?_
          rintro e w8 ⟨rfl, hx8⟩
          have HYB8 := Lib.hid (HYB7.out.trans hx8)
          have HZ8 := Lib.hid hx8
          have HX9 := Lib.hid (HX8.out.trans hx8)
          clear hx8 z0 z1 z2 z3
          obtain ⟨y0, y1, y2⟩ := box3 HYB8.out
          go_wp2_with fail
          refine (HFB _ _ c4 l4 (HR4.out.ext ((Ext.alloc _ _).trans HYB8.out))).out.mono ?_
          rintro e w9 ⟨rfl, hx9⟩
          have HYB9 := Lib.hid (HYB8.out.trans hx9)
          have HZ9 := Lib.hid (HZ8.out.trans hx9)
          have HX10 := Lib.hid (HX9.out.trans hx9)
          clear hx9 y0 y1 y2
          obtain ⟨z0, z1, z2, z3⟩ := HBX.out w9 HX10.out
          obtain ⟨y0, y1, y2⟩ := box3 HYB9.out
          go_wp2_with fail
          refine (HRD _ _ c4 (HR4.out.ext ((Ext.alloc _ _).trans HYB9.out))).out.mono ?_
          rintro e w10 ⟨rfl, hx10⟩
          have HYB10 := Lib.hid (HYB9.out.trans hx10)
          have HZ10 := Lib.hid (HZ9.out.trans hx10)
          have HX11 := Lib.hid (HX10.out.trans hx10)
          clear hx10 z0 z1 z2 z3 y0 y1 y2
          obtain ⟨y0, y1, y2⟩ := box3 HYB10.out
          obtain ⟨x0, x1, x2⟩ := box3 (HYD7.out.trans HZ10.out)
          go_wp2_with fail
          refine (HSS _ _ c4 c6 _ (HR4.out.ext ((Ext.alloc _ _).trans HYB10.out)) (HR6.out.ext ((Ext.alloc _ _).trans (HYD7.out.trans HZ10.out)))).out.mono ?_
          rintro e w11 ⟨rfl, hx11⟩
          have HZ11 := Lib.hid (HZ10.out.trans hx11)
          have HX12 := Lib.hid (HX11.out.trans hx11)
          clear hx11 y0 y1 y2 x0 x1 x2
          go_wp2_with fail
          refine (HII _ c7 _ (HR7.out.ext HZ11.out) (HWR.out.ext (HX1.out.trans HX12.out))).out.mono ?_
          rintro e w12 ⟨rfl, hx12⟩
          have HX13 := Lib.hid (HX12.out.trans hx12)
          clear hx12
          go_wp2_with fail
          refine (alive20_any _).mono ?_
          rintro e w13 ⟨rfl, hx13⟩
          go_wp2_with fail
          go_ret
          exact ⟨rfl, HX1.out.trans (HX13.out.trans hx13)⟩
        · have hm' : m < 0 ∨ 7 < m := by omega
          have HSG := fun (V : World) (a : Option Addr) (c : Nat) (hn0 : a = none → c = 0) (h : Row V a (bools (flL (sd v) (pathN v) (fromTo ws 8 ws.length) xs))) => Lib.hid (sign_ok v h1 h2 _ a c 3 m V hla hn0 h)
          simp only [show ∀ ys, sgRes v ys 3 m = ((0, 0, []), 3) from fun ys => by rw [sgRes_2 (by rw [fmt_mk (by decide) (by decide) hm']; decide), fmt_mk (by decide) (by decide) hm']] at HSG
          unfold RetMat matV at HSG
          simp only [List.length_nil] at HSG
          have hOR : (decide (m < 0) = true) ∨ (decide (m < 0) = false ∧ decide (m > 7) = true) := by
            by_cases e : m < 0
            · exact .inl (decide_eq_true e)
            · exact .inr ⟨decide_eq_false e, decide_eq_true (by omega)⟩
          generalize flL (sd v) (pathN v) (fromTo ws 8 ws.length) xs = xa at *
          generalize sd v * sd v = Q at *
          clear hl hlc hn hr hW1 hwl hwr hfe hc hm hm' hla
          go_enter Try.func9, Try.ntmps9
          go_wp2_with fail
          rw [← HW1.out]
          refine (HVE _).out.mono ?_
          rintro e w1 ⟨rfl, hx1⟩
          have HX2 := Lib.hid hx1
          obtain ⟨z0, z1, z2, z3⟩ := HBX.out w1 hx1
          clear hx1
          go_wp2_with fail
          refine (HSM _).out.mono ?_
          rintro e w2 ⟨rfl, hx2⟩
          have HX3 := Lib.hid (HX2.out.trans hx2)
          clear hx2 z0 z1 z2 z3
          obtain ⟨z0, z1, z2, z3⟩ := HBX.out w2 HX3.out
          go_wp2_with fail
          refine (HBL _ (HR.out.ext (HX1.out.trans HX3.out)) (HWR.out.ext (HX1.out.trans HX3.out))).out.mono ?_
          rintro e w3 ⟨s3, rfl, ho3, hx3⟩
          obtain ⟨g3, c3, rfl, l3, r3⟩ := own_row0 ho3 (by omega)
          have HX4 := Lib.hid (HX3.out.trans hx3)
          have HR3 := Lib.hid r3
          clear ho3 hx3 r3 z0 z1 z2 z3
          go_wp2_with fail
          refine (HSG _ _ c3 (fun e => by cases e) (HR3.out.ext (Ext.alloc _ _))).out.mono ?_
          rintro e w4 ⟨s4, rfl, ho4, hx4⟩
          obtain ⟨a4, c4, rfl, l4, m4, -, r4⟩ := own_row ho4
          have HX5 := Lib.hid (HX4.out.trans ((Ext.alloc _ _).trans hx4))
          clear ho4 hx4 r4
          rcases hOR with ho | ⟨ho, ho'⟩ <;> skip
          all_goals go_wp2_with fail
          all_goals refine (alive20_any _).mono ?_
          all_goals rintro e w5 ⟨rfl, hx5⟩
          all_goals go_wp2_with fail
          all_goals go_ret
          all_goals exact ⟨rfl, HX1.out.trans (HX5.out.trans ((Ext.alloc _ _).trans hx5))⟩
    · have hw4' : 4000 < (wl : Int) := by omega
      generalize sd v * sd v = Q at *
      clear hl hlc hn hr hW1 hwl hwr hc hw4
      go_enter Try.func9, Try.ntmps9
      go_wp2_with fail
      rw [← HW1.out]
      refine (HVE _).out.mono ?_
      rintro e w1 ⟨rfl, hx1⟩
      have HX2 := Lib.hid hx1
      obtain ⟨z0, z1, z2, z3⟩ := HBX.out w1 hx1
      clear hx1
      go_wp2_with fail
      refine (HSM _).out.mono ?_
      rintro e w2 ⟨rfl, hx2⟩
      have HX3 := Lib.hid (HX2.out.trans hx2)
      clear hx2 z0 z1 z2 z3
      obtain ⟨z0, z1, z2, z3⟩ := HBX.out w2 HX3.out
      go_wp2_with fail
      refine (alive20_any _).mono ?_
      rintro e w3 ⟨rfl, hx3⟩
      go_wp2_with fail
      go_ret
      exact ⟨rfl, HX1.out.trans (HX3.out.trans hx3)⟩
  · have HVE := fun (V : World) => Lib.hid (rversion20_no W H ao len cap V hc)
    unfold matV two at HVE
    simp only at HVE
    generalize mcode W H len = E at HVE hc
    have he1 : (E != 0) = true := by simpa using hc
    by_cases hs : (len : Int) ≤ 40000
    · rw [decide_eq_true hs] at HSM
      by_cases hw4 : (wl : Int) ≤ 4000
      · clear hl hlc hn hr hW1 hwl hwr hc hs
        go_enter Try.func9, Try.ntmps9
        go_wp2_with fail
        rw [← HW1.out]
        refine (HVE _).out.mono ?_
        rintro e w1 ⟨rfl, hx1⟩
        have HX2 := Lib.hid hx1
        obtain ⟨z0, z1, z2, z3⟩ := HBX.out w1 hx1
        clear hx1
        go_wp2_with fail
        refine (HSM _).out.mono ?_
        rintro e w2 ⟨rfl, hx2⟩
        have HX3 := Lib.hid (HX2.out.trans hx2)
        clear hx2 z0 z1 z2 z3
        obtain ⟨z0, z1, z2, z3⟩ := HBX.out w2 HX3.out
        go_wp2_with fail
        refine (alive20_any _).mono ?_
        rintro e w3 ⟨rfl, hx3⟩
        go_wp2_with fail
        go_ret
        exact ⟨rfl, HX1.out.trans (HX3.out.trans hx3)⟩
      · have hw4' : 4000 < (wl : Int) := by omega
        clear hl hlc hn hr hW1 hwl hwr hc hs hw4
        go_enter Try.func9, Try.ntmps9
        go_wp2_with fail
        rw [← HW1.out]
        refine (HVE _).out.mono ?_
        rintro e w1 ⟨rfl, hx1⟩
        have HX2 := Lib.hid hx1
        obtain ⟨z0, z1, z2, z3⟩ := HBX.out w1 hx1
        clear hx1
        go_wp2_with fail
        refine (HSM _).out.mono ?_
        rintro e w2 ⟨rfl, hx2⟩
        have HX3 := Lib.hid (HX2.out.trans hx2)
        clear hx2 z0 z1 z2 z3
        obtain ⟨z0, z1, z2, z3⟩ := HBX.out w2 HX3.out
        go_wp2_with fail
        refine (alive20_any _).mono ?_
        rintro e w3 ⟨rfl, hx3⟩
        go_wp2_with fail
        go_ret
        exact ⟨rfl, HX1.out.trans (HX3.out.trans hx3)⟩
    · rw [decide_eq_false hs] at HSM
      clear hl hlc hn hr hW1 hwl hwr hc hs
      go_enter Try.func9, Try.ntmps9
      go_wp2_with fail
      rw [← HW1.out]
      refine (HVE _).out.mono ?_
      rintro e w1 ⟨rfl, hx1⟩
      have HX2 := Lib.hid hx1
      obtain ⟨z0, z1, z2, z3⟩ := HBX.out w1 hx1
      clear hx1
      go_wp2_with fail
      refine (HSM _).out.mono ?_
      rintro e w2 ⟨rfl, hx2⟩
      have HX3 := Lib.hid (HX2.out.trans hx2)
      clear hx2 z0 z1 z2 z3
      obtain ⟨z0, z1, z2, z3⟩ := HBX.out w2 HX3.out
      go_wp2_with fail
      refine (alive20_any _).mono ?_
      rintro e w3 ⟨rfl, hx3⟩
      go_wp2_with fail
      go_ret
      exact ⟨rfl, HX1.out.trans (HX3.out.trans hx3)⟩

set_option maxRecDepth 100000 in
theorem qrlayoutReturns_lifted (os : Os) (started : os.Started) (H : Type) (enc : TypeId × Value → H) :
    ReturnsInHanded {} Try.checked os 9 .any (Rows.qrlayoutReturnsSpec.pre6 enc Try.prog Try.f9 Rows.qrlayoutReturnsRow.domain false) (Rows.qrlayoutReturnsSpec.post enc Try.prog Try.f9 false true false false) := by
  refine returnsInHanded_of_change (C := Try.checked) Try.own started (by kernel_rfl) Try.func9
    (ChangeSpec.witness6 (enc := enc) (C := Try.checked) false ⟨#[], #[.agg #[.int .i64 0, .int .i64 0, .slice none 0 0], .slice none 0 0, .int .i64 0], []⟩ 8 (by kernel_rfl) (by kernel_rfl) (by kernel_rfl) (by kernel_rfl)) ?_
  intro W base args ds gs before hval0 hW _ _
  have hval : ∀ (j : Nat) t v, Try.f9.params[j]? = some t → args[j]? = some v → Value.okWide Try.prog W .any base t v := hval0
  have hW' := hW
  obtain ⟨p, q, hA0, hV, rfl, _, _⟩ := hW
  have hA : DataW.TrodAll enc Try.prog W 0 (fun _ => true) true Try.f9.params.toList args.toList ds p := hA0
  rw [Try.params9] at hA hval
  obtain ⟨rfl, rfl⟩ := trodVars_none hV
  clear hA0 hval0
  simp only [List.append_nil] at hW'
  have hlt : ∀ x ∈ p, x.block < W.heap.size := fun x hx => by simpa using hW'.lt x hx
  have hstay : ∀ W', Below W.heap.size W W' → _ := fun W' hb => args_stay (enc := enc) Try.laidOut hb _ _ _ _ (by kernel_rfl) hA hlt
  obtain ⟨v0, v1, v2, d0, d1, d2, p0, p1, p2, rfl, rfl, rfl, h0, h1, h2⟩ := trodAll_three hA
  obtain ⟨c0_0, c0_1, c0_2, y0_0, y0_1, y0_2, m0, rfl, rfl, rfl, hy0_0, hy0_1, hy0_2⟩ := open_agg3 Try.underlying24 (by kernel_rfl) (by kernel_rfl) (hval 0 24 v0 rfl rfl) h0
  obtain ⟨x0, ex0, _, wx0⟩ := DataW.trod_int Try.underlying3 hy0_0
  simp at ex0
  subst ex0
  obtain ⟨x1, ex1, _, wx1⟩ := DataW.trod_int Try.underlying3 hy0_1
  simp at ex1
  subst ex1
  obtain ⟨xs2, ao2', len2', cap2', hv2, hl2, hc2, hm2, hn2, hr2⟩ := view_bools Try.underlying22 Try.underlying4 Try.cellsBool hy0_2
  subst hv2
  obtain ⟨ao3, len3, cap3, rfl⟩ := okWide_slice Try.underlying60 (hval 1 60 v1 rfl rfl)
  obtain ⟨fuel3, hf3⟩ := h1
  obtain ⟨xs3, ⟨ao3', len3', cap3', hv3, hl3, hc3, hm3, hn3, hr3⟩, hw3⟩ := view_nums Try.underlying60 Try.underlying3 Try.cellsInt hf3
  cases hv3
  obtain ⟨x4, rfl, rfl, rfl, wx4⟩ := open_int Try.underlying3 (hval 2 3 v2 rfl rfl) h2
  refine (qrlayoutReturns_walk x0 x1 ao2' len2' cap2' xs2 ao3 len3 cap3 xs3 x4 W (wf_i64_bd wx0) (wf_i64_bd wx1) (by rw [length_bools] at hl2; exact hl2) hc2 hm2 hn2 hr2 (by rw [List.length_map] at hl3; exact hl3) hc3 hm3 hn3 hr3 (fun n hn => wf_i64_bd (hw3 n hn)) (wf_i64_bd wx4)).mono fun e W' ⟨he, hb⟩ => ?_
  subst he
  exact ⟨_, rfl, _, _, _, [], _, [], hW', trodAll_mk1 (shut_bool Try.underlying4 _), hstay W' hb, rfl, hb.frame _, fun h => by cases h⟩

theorem qrlayoutReturns_holds : Rows.QrlayoutReturnsSaid :=
  OpenClaim.holds_of_wide 9 Try.f9 rfl rfl rfl rfl rfl rfl rfl ⟨rfl, rfl, rfl, rfl, rfl⟩ rfl rfl rfl rfl rfl (by kernel_rfl) Try.func9 (by kernel_rfl)
    (of_decide_eq_true (by kernel_rfl)) (by unfold Func.isWrapper; first | (rw [if_pos (by decide +kernel)]; kernel_rfl) | (rw [if_neg (by decide +kernel)]; exact ⟨rfl, rfl⟩))
    (fun os started H enc _ => qrlayoutReturns_lifted os started H enc)


end Go.Proofs.Ytjkpdhcnklgfbaa
