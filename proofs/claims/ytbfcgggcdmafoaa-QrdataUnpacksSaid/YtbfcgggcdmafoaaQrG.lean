/-
  The contract of the laws' own examples.
  Conditions: none.
-/
import Derived.Test.YtbfcgggcdmafoaaQrF
import Derived.Lib.SlBytesConst
namespace Go.Proofs.Ytbfcgggcdmafoaa
open Go.RowKit Go.Bs Go.Mode Go.Qr

theorem rowLitF (w : World) (cs : List Value) (t : TypeId) (fr : Nat × Nat) : Row (w.alloc (.cells cs.toArray t fr)) (some ⟨w.heap.size, 0, none⟩) cs := by
  intro i v hi
  refine ⟨_, rfl, ?_⟩
  rw [show (⟨w.heap.size, 0, none⟩ : Addr).add i = ⟨w.heap.size, i, none⟩ by unfold Addr.add; split <;> simp_all]
  rw [cell_of_row _ w.heap.size i cs.toArray t fr (heap_alloc_new w _)]
  simpa using hi

theorem own_row0 {w : World} {B : Nat} {e : TypeId} {v : Value} {n : Nat} {xs : List Value} (h : w.ownsRow B e 1 v n xs) (hn : 0 < n) :
    ∃ g cap, v = .slice (some ⟨g, 0, none⟩) n cap ∧ n ≤ cap ∧ Row w (some ⟨g, 0, none⟩) xs := by
  rcases h.2 with ⟨rfl, rfl⟩ | ⟨g, cap, cur, rfl, hb, hg, hnc, hcm, hcs, htake⟩
  · omega
  · exact ⟨g, cap, rfl, hnc, fun i u hi => ⟨_, rfl, h.cells (g := g) rfl i u hi⟩⟩

theorem ex_hd : hdRes 1 3 165 = ([false, false, true, true, false, false, false, true, false, false, true, false, true, false, true, false, false, true, false, true], 0) := by decide +kernel
theorem ex_pad : padRes [true, false, true] 3 = ([160, 236, 17], 0) := by decide +kernel
theorem ex_pad2 : padRes (List.replicate 9 false) 1 = ([], 16) := by decide +kernel
theorem ex_pack : pkRes [(1, [48, 49, 50, 51, 52, 53, 54, 55])] 0 0 0 1 2 = ([16, 32, 12, 86, 97, 128, 236, 17, 236, 17, 236, 17, 236, 17, 236, 17], 0) := by decide +kernel

set_option maxRecDepth 20000 in
set_option maxHeartbeats 1600000 in
theorem examples_any (w : World) : Calls Try.prog 12 #[] w fun e w' => e = .returned (.bool true) ∧ Ext w w' := by
  have kc := fun (w : World) (C : Array Value) (n c : Nat) => Lib.run_convert_bytes_const (P := Try.prog) w 53 5 C n c Try.underlying53 Try.underlying5
  go_enter Try.func12, Try.ntmps12
  go_wp2_with fail
  refine (header_any 1 3 165 w (by decide) (by decide) (by decide)).mono ?_
  rw [ex_hd]
  rintro e w1 ⟨s1, rfl, hown1, hx1⟩
  obtain ⟨g, sc, rfl, hso, hsr⟩ := own_row0 hown1 (by decide)
  obtain ⟨so, hso0⟩ : ∃ so : Option Addr, so = some ⟨g, 0, none⟩ := ⟨_, rfl⟩
  rw [← hso0] at hsr ⊢
  have HSO := Lib.hid hso0
  clear hown1 hso0
  have HS1 := Lib.hid hsr
  have HX1 := Lib.hid hx1
  clear hsr hx1
  go_wp2_with fail
  refine (pad_any (some ⟨w1.heap.size, 0, none⟩) 3 3 [true, false, true] 3 _ rfl (by decide) (by decide) (fun h => by cases h) (Row.lit w1 [.bool true, .bool false, .bool true] 4)).mono ?_
  rw [ex_pad]
  intro e w2 hret
  obtain ⟨po, pc, rfl, hr2, hc2, hm2, hn2, hx2⟩ := hret.ints
  clear hret
  have HX2 := Lib.hid (HX1.out.trans ((Ext.alloc w1 _).trans hx2))
  have HS2 := Lib.hid (HS1.out.ext ((Ext.alloc w1 _).trans hx2))
  have HR2 := Lib.hid hr2
  clear hx2 hr2 HS1 HX1
  go_wp2_with fail
  obtain ⟨W, hW⟩ : ∃ W, W = (w2.alloc (.cells #[.int .u8 48, .int .u8 49, .int .u8 50, .int .u8 51, .int .u8 52, .int .u8 53, .int .u8 54, .int .u8 55] 5 (8, 9))).alloc (.cells #[.int .i64 1, .slice (some ⟨w2.heap.size, 0, none⟩) 8 8] 55) := ⟨_, rfl⟩
  rw [← hW]
  have hxW : Ext w2 W := by rw [hW]; exact (Ext.alloc w2 _).trans (Ext.alloc _ _)
  have HSG : Hid (Segs W (some ⟨w2.heap.size + 1, 0, none⟩) [(1, [48, 49, 50, 51, 52, 53, 54, 55])]) := by
    intro i q hi
    match i, hi with
    | 0, hi =>
      simp at hi
      subst hi
      refine ⟨w2.heap.size + 1, 0, .slice (some ⟨w2.heap.size, 0, none⟩) 8 8, rfl, by rw [hW]; simp, by rw [hW]; simp, some ⟨w2.heap.size, 0, none⟩, 8, rfl, ?_, by decide, by decide, fun h => by cases h⟩
      rw [hW]
      exact (rowLitF w2 (byts [48, 49, 50, 51, 52, 53, 54, 55]) 5 (8, 9)).ext (Ext.alloc _ _)
  have HX3 := Lib.hid (HX2.out.trans hxW)
  have HS3 := Lib.hid (HS2.out.ext hxW)
  have HR3 := Lib.hid (HR2.out.ext hxW)
  clear hW hxW HX2 HS2 HR2
  refine (pack_any _ 1 1 [(1, [48, 49, 50, 51, 52, 53, 54, 55])] 0 0 0 1 2 W rfl (by decide) (by decide) HSG.out ⟨by decide, by decide⟩ ⟨by decide, by decide⟩ ⟨by decide, by decide⟩).mono ?_
  rw [ex_pack]
  intro e w3 hret
  obtain ⟨qo, qc, rfl, hr3, hc3, hm3, hn3, hx3⟩ := hret.ints
  clear hret
  have HX4 := Lib.hid (HX3.out.trans hx3)
  have HS4 := Lib.hid (HS3.out.ext hx3)
  have HR4 := Lib.hid (HR3.out.ext hx3)
  have HQ4 := Lib.hid hr3
  clear hx3 hr3 HX3 HS3 HR3 HSG
  go_wp2_with (at_make; refine wpList_make (ws := w) rfl _ _ 24 rfl w.heap.size 4 (.bool false) 1 Try.infoBool rfl Try.underlying24 _ _ _ _ rfl rfl 9 9 rfl rfl (by decide) (by decide) (by decide) HX4.out HX4.out.size ?_; intro w4 hown4 hbel4 hg4)
  have HO4 : Hid (Row w4 (some ⟨w3.heap.size, 0, none⟩) (bools (List.replicate 9 false))) := by
    obtain ⟨ao, cap, e, _, _, _, h⟩ := own_row hown4
    cases e
    exact h
  have hx4 : Ext w3 w4 := ⟨hg4.os, hg4.tape, hg4.output, hg4.size, fun k hk => hg4.block k hk (by simp)⟩
  have HX5 := Lib.hid (HX4.out.trans hx4)
  have HS5 := Lib.hid (HS4.out.ext hx4)
  have HR5 := Lib.hid (HR4.out.ext hx4)
  have HQ5 := Lib.hid (HQ4.out.ext hx4)
  clear hx4 hown4 hbel4 hg4 HX4 HS4 HR4 HQ4
  refine (pad_any _ 9 9 (List.replicate 9 false) 1 w4 (by decide) (by decide) (by decide) (fun h => by cases h) HO4.out).mono ?_
  rw [ex_pad2]
  intro e w5 hret
  obtain ⟨qo5, qc5, rfl, hr5, hc5, hm5, hn5, hx5⟩ := hret.ints
  clear hret hr5
  have HX6 := Lib.hid (HX5.out.trans hx5)
  have hs6 := HS5.out.ext hx5
  have HR6 := Lib.hid (HR5.out.ext hx5)
  have HQ6 := Lib.hid (HQ5.out.ext hx5)
  rw [HSO.out] at hs6 ⊢
  have c0 : w5.cell? ⟨g, 0, none⟩ = some (.bool false) := by obtain ⟨a, ha, c⟩ := hs6.at (i := 0) (v := .bool false) rfl; cases ha; exact c
  have c2 : w5.cell? ⟨g, 2, none⟩ = some (.bool true) := by obtain ⟨a, ha, c⟩ := hs6.at (i := 2) (v := .bool true) rfl; cases ha; exact c
  have c3 : w5.cell? ⟨g, 3, none⟩ = some (.bool true) := by obtain ⟨a, ha, c⟩ := hs6.at (i := 3) (v := .bool true) rfl; cases ha; exact c
  have c7 : w5.cell? ⟨g, 7, none⟩ = some (.bool true) := by obtain ⟨a, ha, c⟩ := hs6.at (i := 7) (v := .bool true) rfl; cases ha; exact c
  simp only [bools, List.map_cons, List.map_nil, List.length_cons, List.length_nil] at hso hc2 hc3 hc5 ⊢
  clear hx5 HX5 HS5 HR5 HQ5 HO4 hs6
  go_wp2_with fail
  refine (lsame_any po _ 3 pc 3 3 [160, 236, 17] [160, 236, 17] _ rfl rfl (by decide) (HR6.out.ext (Ext.alloc _ _)) (Row.lit w5 (ints [160, 236, 17]) 3)).mono ?_
  rw [show ([160, 236, 17] == ([160, 236, 17] : List Int)) = true from rfl]
  rintro e w6 ⟨rfl, hx6⟩
  have HX7 := Lib.hid (HX6.out.trans ((Ext.alloc w5 _).trans hx6))
  have HQ7 := Lib.hid (HQ6.out.ext ((Ext.alloc w5 _).trans hx6))
  have d0 := (((Ext.alloc w5 _).trans hx6).cell c0)
  have d2 := (((Ext.alloc w5 _).trans hx6).cell c2)
  have d3 := (((Ext.alloc w5 _).trans hx6).cell c3)
  have d7 := (((Ext.alloc w5 _).trans hx6).cell c7)
  clear hx6 c0 c2 c3 c7 HX6 HR6 HQ6
  go_wp2_with fail
  have HQ8 : Hid (Row w6 qo (ints [16, 32, 12, 86, 97, 128, 236, 17])) := by
    have := HQ7.out.cut 0 8 (ao' := qo) (fun _ _ => by cases qo <;> simp [Addr.add])
    show Row _ _ _
    simpa [ints] using this
  refine (lsame_any qo _ 8 qc 8 8 [16, 32, 12, 86, 97, 128, 236, 17] [16, 32, 12, 86, 97, 128, 236, 17] _ rfl rfl (by decide) (HQ8.out.ext (Ext.alloc _ _)) (Row.lit w6 (ints [16, 32, 12, 86, 97, 128, 236, 17]) 3)).mono ?_
  rw [show ([16, 32, 12, 86, 97, 128, 236, 17] == ([16, 32, 12, 86, 97, 128, 236, 17] : List Int)) = true from rfl]
  rintro e w7 ⟨rfl, hx7⟩
  have HX8 := Lib.hid (HX7.out.trans ((Ext.alloc w6 _).trans hx7))
  have e0 := (((Ext.alloc w6 _).trans hx7).cell d0)
  have e2 := (((Ext.alloc w6 _).trans hx7).cell d2)
  have e3 := (((Ext.alloc w6 _).trans hx7).cell d3)
  have e7 := (((Ext.alloc w6 _).trans hx7).cell d7)
  clear hx7 d0 d2 d3 d7 HX7 HQ7 HQ8
  go_wp2_with fail
  go_ret
  exact ⟨rfl, HX8.out⟩

end Go.Proofs.Ytbfcgggcdmafoaa
