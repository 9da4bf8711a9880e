/-
  The contract of the reference's Pack.
  Conditions: the slices' cells are those of the lists.
-/
import Derived.Test.YtbfcgggcdmafoaaQrE
import Derived.Test.YtbfcgggcdmafoaaModeK
import Derived.Test.YtbfcgggcdmafoaaVerG
namespace Go.Proofs.Ytbfcgggcdmafoaa
open Go.RowKit Go.Bs Go.Mode Go.Qr

theorem clRes_ok (v : Int) (h : 1 ≤ v ∧ v ≤ 40) : (clRes v).2 = 0 := by
  unfold clRes
  rw [if_neg (by omega)]
  split
  · rfl
  · split <;> rfl

set_option maxRecDepth 20000 in
set_option maxHeartbeats 1600000 in
theorem rpack_any (ao : Option Addr) (len cap : Nat) (l : List SegD) (i t p v lv : Int) (w : World) (hl : l.length = len) (hc : len ≤ cap) (hm : cap ≤ 9223372036854775807) (hr : Segs w ao l) (hi : i64r i) (ht : i64r t) (hp : i64r p) :
    Calls Try.prog 17 #[.agg #[.slice ao len cap, .int .i64 i, .int .i64 t, .int .i64 p], .int .i64 v, .int .i64 lv] w (RetSl w (ints (pkRes l i t p v lv).1, (pkRes l i t p v lv).2)) := by
  by_cases hv : 1 ≤ v ∧ v ≤ 40
  case neg =>
    rw [pk1 (C := 0) (E := 14) (cpRes_1 (by unfold inV; omega)) (by decide)]
    clear hl hi ht hp
    have hv' : v < 1 ∨ (1 ≤ v ∧ 40 < v) := by omega
    rcases hv' with h | ⟨h, h'⟩
    · clear hv
      go_enter Try.func17, Try.ntmps17
      go_wp2_with fail
      go_ret2
      exact RetSl.nil _ _ _ (Ext.alloc _ _)
    · clear hv
      go_enter Try.func17, Try.ntmps17
      go_wp2_with fail
      go_ret2
      exact RetSl.nil _ _ _ (Ext.alloc _ _)
  case pos =>
  by_cases hlv : 1 ≤ lv ∧ lv ≤ 4
  case neg =>
    rw [pk1 (C := 0) (E := 15) (cpRes_2 (by unfold inV; omega) (by omega)) (by decide)]
    clear hl hi ht hp
    obtain ⟨hv1, hv2⟩ := hv
    have hv' : lv < 1 ∨ (1 ≤ lv ∧ 4 < lv) := by omega
    clear hlv
    rcases hv' with h | ⟨h, h'⟩
    · go_enter Try.func17, Try.ntmps17
      go_wp2_with fail
      go_ret2
      exact RetSl.nil _ _ _ (Ext.alloc _ _)
    · go_enter Try.func17, Try.ntmps17
      go_wp2_with fail
      go_ret2
      exact RetSl.nil _ _ _ (Ext.alloc _ _)
  case pos =>
  obtain ⟨C, h1⟩ : ∃ C, cpRes v lv = (C, 0) := ⟨(cpRes v lv).1, by unfold cpRes; rw [if_pos (by unfold inV; omega), if_neg (by omega)]⟩
  obtain ⟨hb, E2, h2⟩ : ∃ hb E2, hdRes i t p = (hb, E2) := ⟨_, _, rfl⟩
  obtain ⟨K, h3⟩ : ∃ K, clRes v = (K, 0) := ⟨(clRes v).1, by rw [← clRes_ok v hv]⟩
  obtain ⟨eb, E4, h4⟩ : ∃ eb E4, encRes l K = (eb, E4) := ⟨_, _, rfl⟩
  have HHL : Hid (hb.length ≤ 20) := by have := hd_len i t p; rw [h2] at this; exact this
  have HEL : Hid (eb.length ≤ 1048576) := by have := enc_len l K; rw [h4] at this; exact this
  have HL := Lib.hid hl
  have hb20 : hb.length ≤ 20 := HHL.out
  have heb20 : eb.length ≤ 1048576 := HEL.out
  have H1 := Lib.hid h1
  have H2 := Lib.hid h2
  have H3 := Lib.hid h3
  have H4 := Lib.hid h4
  have HI := Lib.hid hi
  have HT := Lib.hid ht
  have HP := Lib.hid hp
  clear h1 h2 h3 h4 hl hi ht hp
  obtain ⟨hv1, hv2⟩ := hv
  obtain ⟨hlv1, hlv2⟩ := hlv
  obtain ⟨R, hR⟩ : ∃ R, R = pkRes l i t p v lv := ⟨_, rfl⟩
  have HR := Lib.hid hR
  rw [← hR]
  clear hR
  have HA : Hid (Row (w.alloc (.cells #[.slice ao len cap, .int .i64 i, .int .i64 t, .int .i64 p] 38)) (some ⟨w.heap.size, 1, none⟩) [.int .i64 i, .int .i64 t, .int .i64 p]) := Row.block (heap_alloc_new w (.cells #[.slice ao len cap, .int .i64 i, .int .i64 t, .int .i64 p] 38)) 1 3
  have A0 : Hid ((w.alloc (.cells #[.slice ao len cap, .int .i64 i, .int .i64 t, .int .i64 p] 38)).cell? ⟨w.heap.size, 0, none⟩ = some (.slice ao len cap)) := by show _ = _; simp
  go_enter Try.func17, Try.ntmps17
  go_wp2_with ((with_reducible show wpList _ _ _ (⟨some 30, _, _, _, _, _⟩ :: _) _ _); refine wpList_loadAgg rfl 23 _ rfl _ Try.underlying23 rfl _ rfl [.int .i64 i, .int .i64 t, .int .i64 p] HA.out (by kernel_rfl) ?_)
  refine (rheader_any i t p _ HI.out HT.out HP.out).mono ?_
  rw [H2.out]
  rintro e w2 ⟨s2, rfl, hown2, hx2⟩
  rw [length_bools] at hown2
  obtain ⟨so, sc, rfl, hso, hsm, _, _⟩ := own_row hown2
  have HX2 := Lib.hid ((Ext.alloc w _).trans hx2)
  have HOW2 := Lib.hid (own_base hown2 (Ext.alloc w _).size)
  have a2 := hx2.cell A0.out
  clear HA A0 hx2 hown2
  by_cases e2 : E2 = 0
  case neg =>
    have hne : (E2 != 0) = true := by simp [e2]
    have HR2 := Lib.hid (HR.out.trans (pk2 H1.out H2.out e2))
    clear e2
    go_wp2_with fail
    go_ret2
    rw [HR2.out]
    exact RetSl.nil _ _ _ HX2.out
  case pos =>
    subst e2
    go_wp2_with fail
    refine (rclass_any v _).mono ?_
    rw [H3.out]
    rintro e w2' ⟨rfl, rfl⟩
    simp only [two]
    go_wp2_with fail
    refine (rencode_any ao len cap l K _ HL.out hc hm (hr.ext HX2.out)).mono ?_
    rw [H4.out]
    intro e w3 hret
    obtain ⟨bo, bc, rfl, hr3, hc3, hm3, hn3, hx3⟩ := hret.bools
    have HX3 := Lib.hid (HX2.out.trans hx3)
    have HOW3 := Lib.hid (own_extN HOW2.out hx3)
    have HR3 := Lib.hid hr3
    clear hret a2 hr3
    by_cases e4 : E4 = 0
    case neg =>
      have hne : (E4 != 0) = true := by simp [e4]
      have HR2 := Lib.hid (HR.out.trans (pk4 H1.out H2.out H3.out H4.out e4))
      clear e4
      go_wp2_with fail
      go_ret2
      rw [HR2.out]
      exact RetSl.nil _ _ _ HX3.out
    case pos =>
      subst e4
      have HR2 := Lib.hid (HR.out.trans (pk5 H1.out H2.out H3.out H4.out))
      go_wp2_with fail
      refine (rcapacity_any v lv _).mono ?_
      rw [H1.out]
      rintro e w4 ⟨rfl, hx4⟩
      simp only [two]
      have HX4 := Lib.hid (HX3.out.trans hx4)
      have hown4 := own_extN HOW3.out hx4
      have hr4 := HR3.out.ext hx4
      have hB4 := HX4.out.size
      clear hx3 hx4
      go_wp2_with (at_builtin; refine wpList_app rfl _ _ 24 rfl w.heap.size 4 (.bool false) 1 1 Try.infoBool rfl (by decide) Try.underlying24 _ rfl _ _ hown4 _ _ bc rfl (bools eb) hr4 (by rw [length_bools]; omega) hn3 (bools_oneCell _) (by omega) (by omega) hB4 ?_; intro s5 w5 hown5 hk5; rw [← bools_append] at hown5; (obtain ⟨so5, sc5, rfl, hso5, hsm5, _, hsr5⟩ := own_row hown5); (have HN5 : Hid (so5 = none → sc5 = 0) := own_nil hown5); (have HX5 : Hid (Ext w w5) := Below.trans HX4.out (hk5.below hB4 (fun k hk => (hown4.lt k hk).1))); clear hown5 hk5)
      refine (rpad_any so5 _ sc5 (hb ++ eb) C w5 (by simp) hso5 (by unfold maxLen at hsm5; omega) HN5.out hsr5).mono ?_
      intro e w6 hret
      obtain ⟨ro, rc, rfl, hr6, hc6, hm6, hn6, hx6⟩ := hret.ints
      clear hret
      go_wp2_with fail
      go_ret2
      rw [HR2.out]
      exact ⟨ro, rc, by rw [length_ints]; rfl, hr6, by rw [length_ints]; exact hc6, hm6, hn6, HX5.out.trans hx6⟩

end Go.Proofs.Ytbfcgggcdmafoaa
