/-
  Contracts of the references' Same (segments) at lists that read alike, and of the laws' own lists of one segment.
  Conditions: the slices' cells are those of the lists.
-/
import Derived.Test.YthebfpolijajgaaModeN
import Derived.Laws.IdiomStrings
namespace Go.Proofs.Ythebfpolijajgaa
open Go.RowKit Go.Bs Go.Mode

set_option maxRecDepth 20000 in
set_option maxHeartbeats 1600000 in
theorem ssame_any (ao bo : Option Addr) (ca cb : Nat) (l : List SegD) (w : World) (hl : l.length ≤ 9223372036854775807) (hr : Segs w ao l) (hs : Segs w bo l) :
    Calls Try.prog 25 #[.slice ao l.length ca, .slice bo l.length cb] w fun e w' => e = .returned (.bool true) ∧ Ext w w' := by
  obtain ⟨n, hn⟩ : ∃ n, n = l.length := ⟨_, rfl⟩
  have HN := Lib.hid hn
  rw [← hn] at hl ⊢
  clear hn
  go_enter Try.func25, Try.ntmps25
  go_wp2_with fail
  go_loopw [5] (fun i wr => ∃ k : Nat, k ≤ n ∧ i = .int .i64 k ∧ Hid (Ext w wr)) (fun i _ => n - (intOf i).toNat)
  case atStart => exact ⟨0, Nat.zero_le _, rfl, Ext.refl _⟩
  case round =>
    obtain ⟨k, hk, rfl, HX⟩ := hrel
    by_cases hlt : k < n
    · have hkl : k < l.length := by rw [← HN.out]; exact hlt
      obtain ⟨b0, off0, v0, ha0, hc0, hc1, ao', ac, rfl, har, hal, ham, han⟩ := (hr.ext HX.out) k l[k] (List.getElem?_eq_getElem hkl)
      obtain ⟨b1, off1, v1, ha1, hd0, hd1, bo', bc, rfl, hbr, hbl, hbm, hbn⟩ := (hs.ext HX.out) k l[k] (List.getElem?_eq_getElem hkl)
      subst ha0 ha1
      obtain ⟨pr, hpr⟩ : ∃ pr, pr = l[k] := ⟨_, rfl⟩
      rw [← hpr] at hc0 hc1 hd0 hd1 har hbr hal hbl
      clear hpr
      obtain ⟨m, d⟩ := pr
      simp only at hc0 hc1 hd0 hd1 har hbr hal hbl
      have ka : ∀ j, (convert 22 9 (.slice ao' d.length ac)).run Try.prog (wr.drewN j) = .ok (.string ⟨d.toArray⟩) (wr.drewN j) := fun j => run_toString Try.underlying22 Try.underlying5 Try.underlying9 (har.ext ((Ext.refl wr).drewN j)) rfl
      have kb : ∀ j, (convert 22 9 (.slice bo' d.length bc)).run Try.prog (wr.drewN j) = .ok (.string ⟨d.toArray⟩) (wr.drewN j) := fun j => run_toString Try.underlying22 Try.underlying5 Try.underlying9 (hbr.ext ((Ext.refl wr).drewN j)) rfl
      go_wp2_with fail
      go_quiet (fail)
      go_wp2_with fail
      go_roundw
      case rel => exact ⟨k + 1, by omega, int_eq (by omega), HX.out.drewN _⟩
      case measure => simp [intOf]; omega
    · go_wp2_with fail
      go_ret
      exact ⟨rfl, HX.out⟩

set_option maxRecDepth 20000 in
set_option maxHeartbeats 1600000 in
theorem segments_any (ao bo : Option Addr) (ca cb : Nat) (l : List SegD) (w : World) (hl : l.length ≤ 9223372036854775807) (hr : Segs w ao l) (hs : Segs w bo l) :
    Calls Try.prog 17 #[.slice ao l.length ca, .slice bo l.length cb] w fun e w' => e = .returned (.bool true) ∧ Ext w w' := by
  obtain ⟨n, hn⟩ : ∃ n, n = l.length := ⟨_, rfl⟩
  have HN := Lib.hid hn
  rw [← hn] at hl ⊢
  clear hn
  go_enter Try.func17, Try.ntmps17
  go_wp2_with fail
  go_loopw [5] (fun i wr => ∃ k : Nat, k ≤ n ∧ i = .int .i64 k ∧ Hid (Ext w wr)) (fun i _ => n - (intOf i).toNat)
  case atStart => exact ⟨0, Nat.zero_le _, rfl, Ext.refl _⟩
  case round =>
    obtain ⟨k, hk, rfl, HX⟩ := hrel
    by_cases hlt : k < n
    · have hkl : k < l.length := by rw [← HN.out]; exact hlt
      obtain ⟨b0, off0, v0, ha0, hc0, hc1, ao', ac, rfl, har, hal, ham, han⟩ := (hr.ext HX.out) k l[k] (List.getElem?_eq_getElem hkl)
      obtain ⟨b1, off1, v1, ha1, hd0, hd1, bo', bc, rfl, hbr, hbl, hbm, hbn⟩ := (hs.ext HX.out) k l[k] (List.getElem?_eq_getElem hkl)
      subst ha0 ha1
      obtain ⟨pr, hpr⟩ : ∃ pr, pr = l[k] := ⟨_, rfl⟩
      rw [← hpr] at hc0 hc1 hd0 hd1 har hbr hal hbl
      clear hpr
      obtain ⟨m, d⟩ := pr
      simp only at hc0 hc1 hd0 hd1 har hbr hal hbl
      have ka : ∀ j, (convert 22 9 (.slice ao' d.length ac)).run Try.prog (wr.drewN j) = .ok (.string ⟨d.toArray⟩) (wr.drewN j) := fun j => run_toString Try.underlying22 Try.underlying5 Try.underlying9 (har.ext ((Ext.refl wr).drewN j)) rfl
      have kb : ∀ j, (convert 22 9 (.slice bo' d.length bc)).run Try.prog (wr.drewN j) = .ok (.string ⟨d.toArray⟩) (wr.drewN j) := fun j => run_toString Try.underlying22 Try.underlying5 Try.underlying9 (hbr.ext ((Ext.refl wr).drewN j)) rfl
      go_wp2_with fail
      go_quiet (fail)
      go_wp2_with fail
      go_roundw
      case rel => exact ⟨k + 1, by omega, int_eq (by omega), HX.out.drewN _⟩
      case measure => simp [intOf]; omega
    · go_wp2_with fail
      go_ret
      exact ⟨rfl, HX.out⟩

/-- '[]byte(s)'. -/
theorem wpList_toBytes {P : Program} {ops : Array Oper} {rest : List Oper} {o : Oper} {a : Act} {K : Exit → Act → World → Prop} {w : World} (hgd : o.guard = none) (src dst : TypeId) (x : Operand) (ho : o.op = .convert src dst x) (e : TypeId)
    (hs : P.underlying src = some .string) (hd : P.underlying dst = some (.slice e)) (he : P.underlying e = some (.int .u8)) (s : ByteArray) (hx : a.eval x = .string s) (hz : s.size ≤ 9223372036854775807)
    (h : ∀ cap w', s.size ≤ cap → cap ≤ 9223372036854775807 → Hid (Row w' (some ⟨w.heap.size, 0, none⟩) (byts s.data.toList)) → Hid (Ext w w') → wpList P ops K rest (a.put o.dst (.slice (some ⟨w.heap.size, 0, none⟩) s.size cap)) w') :
    wpList P ops K (o :: rest) a w := by
  refine wpList_plain hgd fun K hK => ?_
  have hrun := run_bytes_of_string (P := P) w src dst e s hs hd he
  unfold Oper.wp
  simp [execOp, ho, hx, hrun, Result.andThen]
  refine hK _ _ (h _ _ (grownCap_ge w s.size 0 e) (grownCap_le_maxLen w s.size 0 e hz) (Lib.hid ?_) (Lib.hid ((Ext.drew w).trans (Ext.alloc _ _))))
  intro i v hi
  refine ⟨_, rfl, ?_⟩
  rw [add_zero_off]
  have hn : (w.drew.alloc (.cells (bytesRow s (grownCap w s.size 0 e)) e ((bytesRow s (grownCap w s.size 0 e)).size, (bytesRow s (grownCap w s.size 0 e)).size + 1))).heap[w.heap.size]? = some (.cells (bytesRow s (grownCap w s.size 0 e)) e ((bytesRow s (grownCap w s.size 0 e)).size, (bytesRow s (grownCap w s.size 0 e)).size + 1)) := heap_alloc_new _ _
  rw [cell_of_row _ w.heap.size i _ _ _ hn]
  have hl := (List.getElem?_eq_some_iff.1 hi).1
  rw [length_byts] at hl
  unfold bytesRow
  rw [Array.getElem?_append_left (by simpa using hl)]
  simpa [byts] using hi

/-- A list of one segment is returned. -/
def RetOne (w : World) (m : Int) (d : List UInt8) (e : Ending) (w' : World) : Prop :=
  ∃ ao, e = .returned (.slice ao 1 1) ∧ SegsN w' w.heap.size ao [(m, d)] ∧ Ext w w'

set_option maxRecDepth 20000 in
set_option maxHeartbeats 1600000 in
theorem one_any (m : Int) (s : ByteArray) (w : World) (hs : s.size ≤ 9223372036854775807) : Calls Try.prog 31 #[.int .i64 m, .string s] w (RetOne w m s.data.toList) := by
  go_enter Try.func31, Try.ntmps31
  go_wp2_with ((with_reducible show wpList _ _ _ (⟨some 7, _, _, _, _, _⟩ :: _) _ _); refine wpList_toBytes rfl 9 22 _ rfl 5 Try.underlying9 Try.underlying22 Try.underlying5 s rfl hs ?_; intro cap w1 hc1 hc2 HR1 HX1)
  go_ret
  refine ⟨_, rfl, ?_, HX1.out.trans (Ext.alloc _ _)⟩
  intro i q hi
  match i, hi with
  | 0, hi =>
    simp at hi
    subst hi
    have hn := heap_alloc_new w1 (.cells #[.int .i64 m, .slice (some ⟨w.heap.size, 0, none⟩) s.size cap] 33)
    have hz : s.data.toList.length = s.size := by simp
    refine ⟨w1.heap.size, 0, .slice (some ⟨w.heap.size, 0, none⟩) s.size cap, rfl, HX1.out.size, ?_, ?_, some ⟨w.heap.size, 0, none⟩, cap, by rw [hz], HR1.out.ext (Ext.alloc _ _), by rw [hz]; exact hc1, hc2, (fun h => by cases h), (fun a ha => by cases ha; exact Nat.le_refl _)⟩
    · rw [cell_of_row _ _ _ _ _ _ hn]; rfl
    · rw [cell_of_row _ _ _ _ _ _ hn]; rfl

end Go.Proofs.Ythebfpolijajgaa
