/-
  The contract of the reference's Same (messages) at messages that read alike.
  Conditions: the slices' cells are those of the lists.
-/
import Derived.Test.YtbfcgggcdmafoaaQrE
import Derived.Test.YtbfcgggcdmafoaaModeN
namespace Go.Proofs.Ytbfcgggcdmafoaa
open Go.RowKit Go.Bs Go.Mode Go.Qr

set_option maxRecDepth 20000 in
set_option maxHeartbeats 1600000 in
theorem msame_any (ao bo : Option Addr) (ca cb : Nat) (l : List SegD) (i t p : Int) (w : World) (hl : l.length ≤ 9223372036854775807) (hr : Segs w ao l) (hs : Segs w bo l) :
    Calls Try.prog 21 #[.agg #[.slice ao l.length ca, .int .i64 i, .int .i64 t, .int .i64 p], .agg #[.slice bo l.length cb, .int .i64 i, .int .i64 t, .int .i64 p]] w fun e w' => e = .returned (.bool true) ∧ Ext w w' := by
  obtain ⟨W, hW⟩ : ∃ W, W = (w.alloc (.cells #[.slice ao l.length ca, .int .i64 i, .int .i64 t, .int .i64 p] 38)).alloc (.cells #[.slice bo l.length cb, .int .i64 i, .int .i64 t, .int .i64 p] 38) := ⟨_, rfl⟩
  have hxW : Ext w W := by rw [hW]; exact (Ext.alloc _ _).trans (Ext.alloc _ _)
  have za : W.cell? ⟨w.heap.size, 0, none⟩ = some (.slice ao l.length ca) := by rw [hW]; simp
  have zb : W.cell? ⟨w.heap.size + 1, 0, none⟩ = some (.slice bo l.length cb) := by rw [hW]; simp
  have HZA := Lib.hid za
  have HZB := Lib.hid zb
  have HXW := Lib.hid hxW
  have HWW := Lib.hid hW
  clear za zb hxW hW
  obtain ⟨n, hn⟩ : ∃ n, n = l.length := ⟨_, rfl⟩
  have HN := Lib.hid hn
  rw [← hn] at HZA HZB hl HWW ⊢
  clear hn
  go_enter Try.func21, Try.ntmps21
  go_wp2_with fail
  rw [← HWW.out]
  go_loopw [5] (fun i wr => ∃ k : Nat, k ≤ n ∧ i = .int .i64 k ∧ Hid (Ext W wr)) (fun i _ => n - (intOf i).toNat)
  case atStart => exact ⟨0, Nat.zero_le _, rfl, Ext.refl _⟩
  case round =>
    obtain ⟨k, hk, rfl, HX⟩ := hrel
    have xa := HX.out.cell HZA.out
    have xb := HX.out.cell HZB.out
    by_cases hlt : k < n
    · have hkl : k < l.length := by rw [← HN.out]; exact hlt
      obtain ⟨b0, off0, v0, ha0, hc0, hc1, ao', ac, rfl, har, hal, ham, han⟩ := (hr.ext (HXW.out.trans HX.out)) k l[k] (List.getElem?_eq_getElem hkl)
      obtain ⟨b1, off1, v1, ha1, hd0, hd1, bo', bc, rfl, hbr, hbl, hbm, hbn⟩ := (hs.ext (HXW.out.trans HX.out)) k l[k] (List.getElem?_eq_getElem hkl)
      subst ha0 ha1
      obtain ⟨pr, hpr⟩ : ∃ pr, pr = l[k] := ⟨_, rfl⟩
      rw [← hpr] at hc0 hc1 hd0 hd1 har hbr hal hbl
      clear hpr
      obtain ⟨m, d⟩ := pr
      simp only at hc0 hc1 hd0 hd1 har hbr hal hbl
      have ka : ∀ j, (convert 53 9 (.slice ao' d.length ac)).run Try.prog (wr.drewN j) = .ok (.string ⟨d.toArray⟩) (wr.drewN j) := fun j => run_toString Try.underlying53 Try.underlying5 Try.underlying9 (har.ext ((Ext.refl wr).drewN j)) rfl
      have kb : ∀ j, (convert 53 9 (.slice bo' d.length bc)).run Try.prog (wr.drewN j) = .ok (.string ⟨d.toArray⟩) (wr.drewN j) := fun j => run_toString Try.underlying53 Try.underlying5 Try.underlying9 (hbr.ext ((Ext.refl wr).drewN j)) rfl
      go_wp2_with fail
      go_quiet (fail)
      go_wp2_with fail
      go_roundw
      case rel => exact ⟨k + 1, by omega, int_eq (by omega), HX.out.drewN _⟩
      case measure => simp [intOf]; omega
    · go_wp2_with fail
      go_ret
      exact ⟨rfl, HXW.out.trans HX.out⟩

end Go.Proofs.Ytbfcgggcdmafoaa
