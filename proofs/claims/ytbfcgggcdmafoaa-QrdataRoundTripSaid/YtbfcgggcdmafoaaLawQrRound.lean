/-
  For every input QrdataRoundTrip returns true, and each argument reads afterwards as it read before (Rows.QrdataRoundTripSaid).
  No condition.
-/
import Derived.Test.YtbfcgggcdmafoaaQrBase
import Derived.Test.YtbfcgggcdmafoaaRtMsg
import Derived.Test.YtbfcgggcdmafoaaMsg
namespace Go.Proofs.Ytbfcgggcdmafoaa
open Go.RowKit Go.Bs Go.ChangeShapes Go.WideShapes Go.ChangeAt Go.Joins Go.Qr

set_option maxRecDepth 20000 in
set_option maxHeartbeats 1600000 in
theorem qrdataRoundTrip_walk (ao : Option Addr) (len cap : Nat) (l : List SegD) (i t p v lv : Int) (w : World) (hl : l.length = len) (hc : len ≤ cap) (hm : cap ≤ 9223372036854775807) (hr : Segs w ao l) (_ : ∀ q ∈ l, -9223372036854775808 ≤ q.1 ∧ q.1 ≤ 9223372036854775807) (hi : -9223372036854775808 ≤ i ∧ i ≤ 9223372036854775807) (ht : -9223372036854775808 ≤ t ∧ t ≤ 9223372036854775807) (hp : -9223372036854775808 ≤ p ∧ p ≤ 9223372036854775807) (_ : -9223372036854775808 ≤ v ∧ v ≤ 9223372036854775807) (_ : -9223372036854775808 ≤ lv ∧ lv ≤ 9223372036854775807) :
    Calls Try.prog 8 #[.agg #[.slice ao len cap, .int .i64 i, .int .i64 t, .int .i64 p], .int .i64 v, .int .i64 lv] w fun e w' => e = .returned (.bool true) ∧ Ext w w' := by
  have HP := fun W (hx : Ext w W) => Lib.hid (pack_any ao len cap l i t p v lv W hl hc hm (hr.ext hx) hi ht hp)
  obtain ⟨R, E, hR⟩ : ∃ R E, pkRes l i t p v lv = (R, E) := ⟨_, _, rfl⟩
  simp only [hR] at HP
  have HRE : Hid (E ≠ 0 → R = []) := fun h => pk_err hR h
  have HRO : Hid (E = 0 → (cpRes v lv = ((R.length : Int), 0) ∧ R.length ≤ 4096 ∧ (∀ j (hj : j < R.length), 0 ≤ R[j] ∧ R[j] ≤ 255)) ∧ unpRes R v = (l, (i, t, p), 0)) := fun h => by
    subst h; exact ⟨pk_len hR, unp_pack hR⟩
  have HL := Lib.hid hl
  clear hR hl hi ht hp
  have HA : Hid (Row (w.alloc (.cells #[.slice ao len cap, .int .i64 i, .int .i64 t, .int .i64 p] 38)) (some ⟨w.heap.size, 0, none⟩) [.slice ao len cap, .int .i64 i, .int .i64 t, .int .i64 p]) := Row.lit w [.slice ao len cap, .int .i64 i, .int .i64 t, .int .i64 p] 38
  by_cases hE : E = 0
  case neg =>
    have hne : (E != 0) = true := by simp [hE]
    obtain rfl := HRE.out hE
    clear hE HRO HRE
    go_enter Try.func8, Try.ntmps8
    go_wp2_with fail
    refine (HP _ (Ext.alloc w _)).out.mono ?_
    intro e w1 hret
    obtain ⟨so, sc, rfl, hs1, hc1, hm1, hn1, hx1⟩ := hret.ints
    clear hret hs1
    go_wp2_with fail
    refine (examples_any _).mono ?_
    rintro e w4 ⟨rfl, hx4⟩
    go_wp2_with fail
    go_ret
    exact ⟨rfl, (Ext.alloc w _).trans (hx1.trans hx4)⟩
  case pos =>
    subst hE
    obtain ⟨⟨hcp, hRl, hRb⟩, hun⟩ := HRO.out rfl
    have HCP := Lib.hid hcp
    have HRB := Lib.hid hRb
    have HUN := Lib.hid hun
    clear HRO HRE hcp hRb hun
    obtain ⟨n, hn⟩ : ∃ n, n = R.length := ⟨_, rfl⟩
    have HN := Lib.hid hn.symm
    rw [← hn] at HCP hRl
    have hnl : n ≤ R.length := by omega
    clear hn
    go_enter Try.func8, Try.ntmps8
    go_wp2_with fail
    refine (HP _ (Ext.alloc w _)).out.mono ?_
    intro e w1 hret
    obtain ⟨so, sc, rfl, hs1, hc1, hm1, hn1, hx1⟩ := hret.ints
    clear hret
    rw [HN.out] at hc1 ⊢
    have HX1 := Lib.hid ((Ext.alloc w _).trans hx1)
    have HA1 := Lib.hid (HA.out.ext hx1)
    have HS1 := Lib.hid hs1
    clear hx1 hs1 HA
    go_wp2_with fail
    refine (capacity_any v lv _).mono ?_
    rw [HCP.out]
    rintro e w2 ⟨rfl, hx2⟩
    simp only [two]
    have HX2 := Lib.hid (HX1.out.trans hx2)
    have HA2 := Lib.hid (HA1.out.ext hx2)
    have HS2 := Lib.hid (HS1.out.ext hx2)
    clear hx2 HX1 HA1 HS1
    go_wp2_with fail
    go_loop [12, 46] (fun _ q => ∃ j : Nat, j ≤ n ∧ q = .int .i64 j) (fun _ q => n - (intOf q).toNat)
    case atStart => exact ⟨0, Nat.zero_le _, rfl⟩
    case round =>
      obtain ⟨j, hj, rfl⟩ := hrel
      by_cases hlt : j < n
      · obtain ⟨a, ha, hc⟩ := HS2.out.at (Go.Bs.ints_at R j (by omega))
        subst ha
        obtain ⟨hx1, hx2⟩ := HRB.out j (by omega)
        obtain ⟨X, hX⟩ : ∃ X, X = R[j]'(by omega) := ⟨_, rfl⟩
        rw [← hX] at hc hx1 hx2
        clear hX
        go_wp2_with fail
        go_round
        case rel => exact ⟨j + 1, by omega, int_eq (by omega)⟩
        case measure => simp [intOf]; omega
      · obtain rfl : j = n := by omega
        go_wp2_with fail
        refine (unpack_msg so j sc R v w2 HN.out hc1 hm1 HS2.out).mono ?_
        rw [HUN.out]
        rintro e w3 ⟨uo, uc, rfl, hus, huc, hum, hx3⟩
        simp only at hus huc ⊢
        have HX3 := Lib.hid (HX2.out.trans hx3)
        have HA3 := Lib.hid (HA2.out.ext hx3)
        have HUS := Lib.hid hus
        have huc' : len ≤ uc := by rw [← HL.out]; exact huc
        rw [HL.out]
        clear hx3 hus huc HA2 HS2 HX2
        have HA4 : Hid (Row (w3.alloc (.cells #[.slice uo len uc, .int .i64 i, .int .i64 t, .int .i64 p] 38)) (some ⟨w.heap.size, 0, none⟩) [.slice ao len cap, .int .i64 i, .int .i64 t, .int .i64 p]) := HA3.out.ext (Ext.alloc _ _)
        have z0 : (w3.alloc (.cells #[.slice uo len uc, .int .i64 i, .int .i64 t, .int .i64 p] 38)).cell? ⟨w.heap.size, 0, none⟩ = some (.slice ao len cap) := by obtain ⟨a, ha, c⟩ := HA4.out.at (i := 0) rfl; cases ha; exact c
        have z1 : (w3.alloc (.cells #[.slice uo len uc, .int .i64 i, .int .i64 t, .int .i64 p] 38)).cell? ⟨w.heap.size, 1, none⟩ = some (.int .i64 i) := by obtain ⟨a, ha, c⟩ := HA4.out.at (i := 1) rfl; cases ha; exact c
        have z2 : (w3.alloc (.cells #[.slice uo len uc, .int .i64 i, .int .i64 t, .int .i64 p] 38)).cell? ⟨w.heap.size, 2, none⟩ = some (.int .i64 t) := by obtain ⟨a, ha, c⟩ := HA4.out.at (i := 2) rfl; cases ha; exact c
        have z3 : (w3.alloc (.cells #[.slice uo len uc, .int .i64 i, .int .i64 t, .int .i64 p] 38)).cell? ⟨w.heap.size, 3, none⟩ = some (.int .i64 p) := by obtain ⟨a, ha, c⟩ := HA4.out.at (i := 3) rfl; cases ha; exact c
        have HMS : Hid (Calls Try.prog 21 #[.agg #[.slice uo len uc, .int .i64 i, .int .i64 t, .int .i64 p], .agg #[.slice ao len cap, .int .i64 i, .int .i64 t, .int .i64 p]] (w3.alloc (.cells #[.slice uo len uc, .int .i64 i, .int .i64 t, .int .i64 p] 38)) fun e w' => e = .returned (.bool true) ∧ Ext (w3.alloc (.cells #[.slice uo len uc, .int .i64 i, .int .i64 t, .int .i64 p] 38)) w') := by
          have := msame_any uo ao uc cap l i t p (w3.alloc (.cells #[.slice uo len uc, .int .i64 i, .int .i64 t, .int .i64 p] 38)) (by rw [HL.out]; omega) (HUS.out.ext (Ext.alloc _ _)) (hr.ext (HX3.out.trans (Ext.alloc _ _)))
          rwa [HL.out] at this
        go_wp2_with fail
        refine HMS.out.mono ?_
        rintro e w5 ⟨rfl, hx5⟩
        clear z0 z1 z2 z3
        go_wp2_with fail
        refine (examples_any _).mono ?_
        rintro e w6 ⟨rfl, hx6⟩
        go_wp2_with fail
        go_ret
        exact ⟨rfl, HX3.out.trans ((Ext.alloc _ _).trans (hx5.trans hx6))⟩

set_option maxRecDepth 100000 in
theorem qrdataRoundTrip_lifted (os : Os) (started : os.Started) (H : Type) (enc : TypeId × Value → H) :
    ReturnsInHanded {} Try.checked os 8 .any (Rows.qrdataRoundTripSpec.pre6 enc Try.prog Try.f8 Rows.qrdataRoundTripRow.domain false) (Rows.qrdataRoundTripSpec.post enc Try.prog Try.f8 false true false false) := by
  refine returnsInHanded_of_change (C := Try.checked) Try.own started (by kernel_rfl) Try.func8
    (ChangeSpec.witness6 (enc := enc) (C := Try.checked) false ⟨#[], #[.agg #[.slice none 0 0, .int .i64 0, .int .i64 0, .int .i64 0], .int .i64 0, .int .i64 0], []⟩ 8 (by kernel_rfl) (by kernel_rfl) (by kernel_rfl) (by kernel_rfl)) ?_
  intro W base args ds gs before hval0 hW _ _
  have hval : ∀ (j : Nat) t v, Try.f8.params[j]? = some t → args[j]? = some v → Value.okWide Try.prog W .any base t v := hval0
  have hW' := hW
  obtain ⟨p, q, hA0, hV, rfl, _, _⟩ := hW
  have hA : DataW.TrodAll enc Try.prog W 0 (fun _ => true) true Try.f8.params.toList args.toList ds p := hA0
  rw [Try.params8] at hA hval
  obtain ⟨rfl, rfl⟩ := trodVars_none hV
  clear hA0 hval0
  simp only [List.append_nil] at hW'
  have hlt : ∀ x ∈ p, x.block < W.heap.size := fun x hx => by simpa using hW'.lt x hx
  have hstay : ∀ W', Below W.heap.size W W' → _ := fun W' hb => args_stay (enc := enc) Try.laidOut hb _ _ _ _ (by kernel_rfl) hA hlt
  obtain ⟨v0, v1, v2, d0, d1, d2, p0, p1, p2, rfl, rfl, rfl, h0, h1, h2⟩ := trodAll_three hA
  obtain ⟨cm0, xa0, xb0, xc0, ym0, nm0, rfl, hf0, wa0, wb0, wc0⟩ := open_message Try.underlying38 (by kernel_rfl) rfl (by kernel_rfl) rfl Try.underlying23 (by kernel_rfl) rfl rfl rfl (by kernel_rfl) (by kernel_rfl) (by kernel_rfl) Try.underlying3 Try.underlying3 Try.underlying3 (hval 0 38 v0 rfl rfl) h0
  obtain ⟨sl0, ao0, len0, cap0, hv0, hl0, hc0, hm0, hr0, hw0⟩ := view_segs Try.underlying36 Try.underlying55 Try.underlying52 (by kernel_rfl) (by kernel_rfl) Try.underlying53 Try.underlying5 (by kernel_rfl) (by kernel_rfl) rfl rfl rfl rfl hf0
  subst hv0
  obtain ⟨x1, rfl, rfl, rfl, wx1⟩ := open_int Try.underlying3 (hval 1 3 v1 rfl rfl) h1
  obtain ⟨x2, rfl, rfl, rfl, wx2⟩ := open_int Try.underlying39 (hval 2 39 v2 rfl rfl) h2
  refine (qrdataRoundTrip_walk ao0 len0 cap0 sl0 xa0 xb0 xc0 x1 x2 W hl0 hc0 hm0 hr0 (fun q hq => wf_i64_bd (hw0 q hq)) (wf_i64_bd wa0) (wf_i64_bd wb0) (wf_i64_bd wc0) (wf_i64_bd wx1) (wf_i64_bd wx2)).mono fun e W' ⟨he, hb⟩ => ?_
  subst he
  exact ⟨_, rfl, _, _, _, [], _, [], hW', trodAll_mk1 (shut_bool Try.underlying4 _), hstay W' hb, rfl, hb.frame _, fun h => by cases h⟩

theorem qrdataRoundTrip_holds : Rows.QrdataRoundTripSaid :=
  OpenClaim.holds_of_wide 8 Try.f8 rfl rfl rfl rfl rfl rfl rfl ⟨rfl, rfl, rfl, rfl, rfl⟩ rfl rfl rfl rfl rfl (by kernel_rfl) Try.func8 (by kernel_rfl)
    (of_decide_eq_true (by kernel_rfl)) (by unfold Func.isWrapper; first | (rw [if_pos (by decide +kernel)]; kernel_rfl) | (rw [if_neg (by decide +kernel)]; exact ⟨rfl, rfl⟩))
    (fun os started H enc _ => qrdataRoundTrip_lifted os started H enc)


end Go.Proofs.Ytbfcgggcdmafoaa
