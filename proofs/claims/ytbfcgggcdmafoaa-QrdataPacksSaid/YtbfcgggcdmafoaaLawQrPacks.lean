/-
  For every input QrdataPacks returns true, and each argument reads afterwards as it read before (Rows.QrdataPacksSaid).
  No condition.
-/
import Derived.Test.YtbfcgggcdmafoaaQrBase
import Derived.Test.YtbfcgggcdmafoaaQrI
import Derived.Test.YtbfcgggcdmafoaaMsg
namespace Go.Proofs.Ytbfcgggcdmafoaa
open Go.RowKit Go.Bs Go.ChangeShapes Go.WideShapes Go.ChangeAt Go.Joins Go.Qr

theorem padRes_len (xs : List Bool) (n : Int) : (padRes xs n).1.length ≤ 4096 := by
  unfold padRes
  split
  · simp
  · split
    · simp
    · simp only
      rw [length_padW xs n.toNat (by omega)]
      omega
theorem pkRes_len (l : List SegD) (i t p v lv : Int) : (pkRes l i t p v lv).1.length ≤ 4096 := by
  unfold pkRes
  split
  · simp
  · split
    · simp
    · split
      · simp
      · split
        · simp
        · exact padRes_len _ _

set_option maxRecDepth 20000 in
set_option maxHeartbeats 1000000 in
theorem qrdataPacks_walk (ao : Option Addr) (len cap : Nat) (l : List SegD) (i t p v lv : Int) (w : World) (hl : l.length = len) (hc : len ≤ cap) (hm : cap ≤ 9223372036854775807) (hr : Segs w ao l) (_ : ∀ q ∈ l, -9223372036854775808 ≤ q.1 ∧ q.1 ≤ 9223372036854775807) (hi : -9223372036854775808 ≤ i ∧ i ≤ 9223372036854775807) (ht : -9223372036854775808 ≤ t ∧ t ≤ 9223372036854775807) (hp : -9223372036854775808 ≤ p ∧ p ≤ 9223372036854775807) (_ : -9223372036854775808 ≤ v ∧ v ≤ 9223372036854775807) (_ : -9223372036854775808 ≤ lv ∧ lv ≤ 9223372036854775807) :
    Calls Try.prog 5 #[.agg #[.slice ao len cap, .int .i64 i, .int .i64 t, .int .i64 p], .int .i64 v, .int .i64 lv] w fun e w' => e = .returned (.bool true) ∧ Ext w w' := by
  have HP := fun W (hx : Ext w W) => Lib.hid (pack_any ao len cap l i t p v lv W hl hc hm (hr.ext hx) hi ht hp)
  have HQ := fun W (hx : Ext w W) => Lib.hid (rpack_any ao len cap l i t p v lv W hl hc hm (hr.ext hx) hi ht hp)
  have hlen := pkRes_len l i t p v lv
  obtain ⟨R, E, hR⟩ : ∃ R E, pkRes l i t p v lv = (R, E) := ⟨_, _, rfl⟩
  rw [hR] at hlen
  simp only [hR] at HP HQ hlen
  clear hR hl hi ht hp
  have HA : Hid (Row (w.alloc (.cells #[.slice ao len cap, .int .i64 i, .int .i64 t, .int .i64 p] 38)) (some ⟨w.heap.size, 0, none⟩) [.slice ao len cap, .int .i64 i, .int .i64 t, .int .i64 p]) := Row.lit w [.slice ao len cap, .int .i64 i, .int .i64 t, .int .i64 p] 38
  go_enter Try.func5, Try.ntmps5
  go_wp2_with fail
  refine (HP _ (Ext.alloc w _)).out.mono ?_
  intro e w1 hret
  obtain ⟨so, sc, rfl, hs1, hc1, hm1, hn1, hx1⟩ := hret.ints
  clear hret
  have HX1 := Lib.hid ((Ext.alloc w _).trans hx1)
  have HA1 := Lib.hid (HA.out.ext hx1)
  have HS1 := Lib.hid hs1
  clear hx1 hs1 HA
  go_wp2_with ((with_reducible show wpList _ _ _ (⟨some 19, _, _, _, _, _⟩ :: _) _ _); refine wpList_loadAgg rfl 38 _ rfl _ Try.underlying38 rfl _ rfl [.slice ao len cap, .int .i64 i, .int .i64 t, .int .i64 p] HA1.out (by kernel_rfl) ?_)
  refine (HQ w1 HX1.out).out.mono ?_
  intro e w2 hret
  obtain ⟨ro, rc, rfl, hr2, hc2, hm2, hn2, hx2⟩ := hret.ints
  clear hret
  have HX2 := Lib.hid (HX1.out.trans hx2)
  have HS2 := Lib.hid (HS1.out.ext hx2)
  have HR2 := Lib.hid hr2
  clear hx2 hr2 HS1 HX1 HA1
  go_wp2_with fail
  refine (lsame_any so ro _ sc _ rc R R _ rfl rfl (by omega) HS2.out HR2.out).mono ?_
  rw [show (R == R) = true from by simp]
  rintro e w3 ⟨rfl, hx3⟩
  go_wp2_with fail
  refine (examples_any _).mono ?_
  rintro e w4 ⟨rfl, hx4⟩
  go_wp2_with fail
  go_ret
  exact ⟨rfl, HX2.out.trans (hx3.trans hx4)⟩

set_option maxRecDepth 100000 in
theorem qrdataPacks_lifted (os : Os) (started : os.Started) (H : Type) (enc : TypeId × Value → H) :
    ReturnsInHanded {} Try.checked os 5 .any (Rows.qrdataPacksSpec.pre6 enc Try.prog Try.f5 Rows.qrdataPacksRow.domain false) (Rows.qrdataPacksSpec.post enc Try.prog Try.f5 false true false false) := by
  refine returnsInHanded_of_change (C := Try.checked) Try.own started (by kernel_rfl) Try.func5
    (ChangeSpec.witness6 (enc := enc) (C := Try.checked) false ⟨#[], #[.agg #[.slice none 0 0, .int .i64 0, .int .i64 0, .int .i64 0], .int .i64 0, .int .i64 0], []⟩ 8 (by kernel_rfl) (by kernel_rfl) (by kernel_rfl) (by kernel_rfl)) ?_
  intro W base args ds gs before hval0 hW _ _
  have hval : ∀ (j : Nat) t v, Try.f5.params[j]? = some t → args[j]? = some v → Value.okWide Try.prog W .any base t v := hval0
  have hW' := hW
  obtain ⟨p, q, hA0, hV, rfl, _, _⟩ := hW
  have hA : DataW.TrodAll enc Try.prog W 0 (fun _ => true) true Try.f5.params.toList args.toList ds p := hA0
  rw [Try.params5] at hA hval
  obtain ⟨rfl, rfl⟩ := trodVars_none hV
  clear hA0 hval0
  simp only [List.append_nil] at hW'
  have hlt : ∀ x ∈ p, x.block < W.heap.size := fun x hx => by simpa using hW'.lt x hx
  have hstay : ∀ W', Below W.heap.size W W' → _ := fun W' hb => args_stay (enc := enc) Try.laidOut hb _ _ _ _ (by kernel_rfl) hA hlt
  obtain ⟨v0, v1, v2, d0, d1, d2, p0, p1, p2, rfl, rfl, rfl, h0, h1, h2⟩ := trodAll_three hA
  obtain ⟨cm0, xa0, xb0, xc0, ym0, nm0, rfl, hf0, wa0, wb0, wc0⟩ := open_message Try.underlying38 (by kernel_rfl) rfl (by kernel_rfl) rfl Try.underlying23 (by kernel_rfl) rfl rfl rfl (by kernel_rfl) (by kernel_rfl) (by kernel_rfl) Try.underlying3 Try.underlying3 Try.underlying3 (hval 0 38 v0 rfl rfl) h0
  obtain ⟨sl0, ao0, len0, cap0, hv0, hl0, hc0, hm0, hr0, hw0⟩ := view_segs Try.underlying36 Try.underlying55 Try.underlying52 (by kernel_rfl) (by kernel_rfl) Try.underlying53 Try.underlying5 (by kernel_rfl) (by kernel_rfl) rfl rfl rfl rfl hf0
  subst hv0
  obtain ⟨x1, rfl, rfl, rfl, wx1⟩ := open_int Try.underlying3 (hval 1 3 v1 rfl rfl) h1
  obtain ⟨x2, rfl, rfl, rfl, wx2⟩ := open_int Try.underlying39 (hval 2 39 v2 rfl rfl) h2
  refine (qrdataPacks_walk ao0 len0 cap0 sl0 xa0 xb0 xc0 x1 x2 W hl0 hc0 hm0 hr0 (fun q hq => wf_i64_bd (hw0 q hq)) (wf_i64_bd wa0) (wf_i64_bd wb0) (wf_i64_bd wc0) (wf_i64_bd wx1) (wf_i64_bd wx2)).mono fun e W' ⟨he, hb⟩ => ?_
  subst he
  exact ⟨_, rfl, _, _, _, [], _, [], hW', trodAll_mk1 (shut_bool Try.underlying4 _), hstay W' hb, rfl, hb.frame _, fun h => by cases h⟩

theorem qrdataPacks_holds : Rows.QrdataPacksSaid :=
  OpenClaim.holds_of_wide 5 Try.f5 rfl rfl rfl rfl rfl rfl rfl ⟨rfl, rfl, rfl, rfl, rfl⟩ rfl rfl rfl rfl rfl (by kernel_rfl) Try.func5 (by kernel_rfl)
    (of_decide_eq_true (by kernel_rfl)) (by unfold Func.isWrapper; first | (rw [if_pos (by decide +kernel)]; kernel_rfl) | (rw [if_neg (by decide +kernel)]; exact ⟨rfl, rfl⟩))
    (fun os started H enc _ => qrdataPacks_lifted os started H enc)


end Go.Proofs.Ytbfcgggcdmafoaa
