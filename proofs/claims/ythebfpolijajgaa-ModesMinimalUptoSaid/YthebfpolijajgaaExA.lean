/-
  Contracts of the references' Same (segments) at lists that read alike, and of the laws' own lists of one segment.
  Conditions: the slices' cells are those of the lists.
Contracts of the laws' own small and repeated, and of Join (the program's and the reference's).
  Conditions: the slices' cells are those of the lists; the joined data are not too many.
-/
import Derived.Test.YthebfpolijajgaaModeM
import Derived.Laws.IdiomStrings
namespace Go.Proofs.Ythebfpolijajgaa
open Go.RowKit Go.Bs Go.Mode

set_option maxRecDepth 20000 in
set_option maxHeartbeats 1600000 in
theorem ssame_any (ao bo : Option Addr) (ca cb : Nat) (l : List SegD) (w : World) (hl : l.length ≤ 9223372036854775807) (hr : Segs w ao l) (hs : Segs w bo l) :
    Calls Try.prog 25 #[.slice ao l.length ca, .slice bo l.length cb] w fun e w' => e = .returned (.bool true) ∧ Ext w w' := by
  obtain ⟨n, hn⟩ : ∃ n, n = l.length := ⟨_, rfl⟩
  have HN := Lib.hid hn
  rw [← hn] at hl ⊢
  clear hn
  go_enter Try.func25, Try.ntmps25
  go_wp2_with fail
  go_loopw [5] (fun i wr => ∃ k : Nat, k ≤ n ∧ i = .int .i64 k ∧ Hid (Ext w wr)) (fun i _ => n - (intOf i).toNat)
  case atStart => exact ⟨0, Nat.zero_le _, rfl, Ext.refl _⟩
  case round =>
    obtain ⟨k, hk, rfl, HX⟩ := hrel
    by_cases hlt : k < n
    · have hkl : k < l.length := by rw [← HN.out]; exact hlt
      obtain ⟨b0, off0, v0, ha0, hc0, hc1, ao', ac, rfl, har, hal, ham, han⟩ := (hr.ext HX.out) k l[k] (List.getElem?_eq_getElem hkl)
      obtain ⟨b1, off1, v1, ha1, hd0, hd1, bo', bc, rfl, hbr, hbl, hbm, hbn⟩ := (hs.ext HX.out) k l[k] (List.getElem?_eq_getElem hkl)
      subst ha0 ha1
      obtain ⟨pr, hpr⟩ : ∃ pr, pr = l[k] := ⟨_, rfl⟩
      rw [← hpr] at hc0 hc1 hd0 hd1 har hbr hal hbl
      clear hpr
      obtain ⟨m, d⟩ := pr
      simp only at hc0 hc1 hd0 hd1 har hbr hal hbl
      have ka : ∀ j, (convert 22 9 (.slice ao' d.length ac)).run Try.prog (wr.drewN j) = .ok (.string ⟨d.toArray⟩) (wr.drewN j) := fun j => run_toString Try.underlying22 Try.underlying5 Try.underlying9 (har.ext ((Ext.refl wr).drewN j)) rfl
      have kb : ∀ j, (convert 22 9 (.slice bo' d.length bc)).run Try.prog (wr.drewN j) = .ok (.string ⟨d.toArray⟩) (wr.drewN j) := fun j => run_toString Try.underlying22 Try.underlying5 Try.underlying9 (hbr.ext ((Ext.refl wr).drewN j)) rfl
      go_wp2_with fail
      go_quiet (fail)
      go_wp2_with fail
      go_roundw
      case rel => exact ⟨k + 1, by omega, int_eq (by omega), HX.out.drewN _⟩
      case measure => simp [intOf]; omega
    · go_wp2_with fail
      go_ret
      exact ⟨rfl, HX.out⟩

set_option maxRecDepth 20000 in
set_option maxHeartbeats 1600000 in
theorem segments_any (ao bo : Option Addr) (ca cb : Nat) (l : List SegD) (w : World) (hl : l.length ≤ 9223372036854775807) (hr : Segs w ao l) (hs : Segs w bo l) :
    Calls Try.prog 17 #[.slice ao l.length ca, .slice bo l.length cb] w fun e w' => e = .returned (.bool true) ∧ Ext w w' := by
  obtain ⟨n, hn⟩ : ∃ n, n = l.length := ⟨_, rfl⟩
  have HN := Lib.hid hn
  rw [← hn] at hl ⊢
  clear hn
  go_enter Try.func17, Try.ntmps17
  go_wp2_with fail
  go_loopw [5] (fun i wr => ∃ k : Nat, k ≤ n ∧ i = .int .i64 k ∧ Hid (Ext w wr)) (fun i _ => n - (intOf i).toNat)
  case atStart => exact ⟨0, Nat.zero_le _, rfl, Ext.refl _⟩
  case round =>
    obtain ⟨k, hk, rfl, HX⟩ := hrel
    by_cases hlt : k < n
    · have hkl : k < l.length := by rw [← HN.out]; exact hlt
      obtain ⟨b0, off0, v0, ha0, hc0, hc1, ao', ac, rfl, har, hal, ham, han⟩ := (hr.ext HX.out) k l[k] (List.getElem?_eq_getElem hkl)
      obtain ⟨b1, off1, v1, ha1, hd0, hd1, bo', bc, rfl, hbr, hbl, hbm, hbn⟩ := (hs.ext HX.out) k l[k] (List.getElem?_eq_getElem hkl)
      subst ha0 ha1
      obtain ⟨pr, hpr⟩ : ∃ pr, pr = l[k] := ⟨_, rfl⟩
      rw [← hpr] at hc0 hc1 hd0 hd1 har hbr hal hbl
      clear hpr
      obtain ⟨m, d⟩ := pr
      simp only at hc0 hc1 hd0 hd1 har hbr hal hbl
      have ka : ∀ j, (convert 22 9 (.slice ao' d.length ac)).run Try.prog (wr.drewN j) = .ok (.string ⟨d.toArray⟩) (wr.drewN j) := fun j => run_toString Try.underlying22 Try.underlying5 Try.underlying9 (har.ext ((Ext.refl wr).drewN j)) rfl
      have kb : ∀ j, (convert 22 9 (.slice bo' d.length bc)).run Try.prog (wr.drewN j) = .ok (.string ⟨d.toArray⟩) (wr.drewN j) := fun j => run_toString Try.underlying22 Try.underlying5 Try.underlying9 (hbr.ext ((Ext.refl wr).drewN j)) rfl
      go_wp2_with fail
      go_quiet (fail)
      go_wp2_with fail
      go_roundw
      case rel => exact ⟨k + 1, by omega, int_eq (by omega), HX.out.drewN _⟩
      case measure => simp [intOf]; omega
    · go_wp2_with fail
      go_ret
      exact ⟨rfl, HX.out⟩

/-- '[]byte(s)'. -/
theorem wpList_toBytes {P : Program} {ops : Array Oper} {rest : List Oper} {o : Oper} {a : Act} {K : Exit → Act → World → Prop} {w : World} (hgd : o.guard = none) (src dst : TypeId) (x : Operand) (ho : o.op = .convert src dst x) (e : TypeId)
    (hs : P.underlying src = some .string) (hd : P.underlying dst = some (.slice e)) (he : P.underlying e = some (.int .u8)) (s : ByteArray) (hx : a.eval x = .string s) (hz : s.size ≤ 9223372036854775807)
    (h : ∀ cap w', s.size ≤ cap → cap ≤ 9223372036854775807 → Hid (Row w' (some ⟨w.heap.size, 0, none⟩) (byts s.data.toList)) → Hid (Ext w w') → wpList P ops K rest (a.put o.dst (.slice (some ⟨w.heap.size, 0, none⟩) s.size cap)) w') :
    wpList P ops K (o :: rest) a w := by
  refine wpList_plain hgd fun K hK => ?_
  have hrun := run_bytes_of_string (P := P) w src dst e s hs hd he
  unfold Oper.wp
  simp [execOp, ho, hx, hrun, Result.andThen]
  refine hK _ _ (h _ _ (grownCap_ge w s.size 0 e) (grownCap_le_maxLen w s.size 0 e hz) (Lib.hid ?_) (Lib.hid ((Ext.drew w).trans (Ext.alloc _ _))))
  intro i v hi
  refine ⟨_, rfl, ?_⟩
  rw [add_zero_off]
  have hn : (w.drew.alloc (.cells (bytesRow s (grownCap w s.size 0 e)) e ((bytesRow s (grownCap w s.size 0 e)).size, (bytesRow s (grownCap w s.size 0 e)).size + 1))).heap[w.heap.size]? = some (.cells (bytesRow s (grownCap w s.size 0 e)) e ((bytesRow s (grownCap w s.size 0 e)).size, (bytesRow s (grownCap w s.size 0 e)).size + 1)) := heap_alloc_new _ _
  rw [cell_of_row _ w.heap.size i _ _ _ hn]
  have hl := (List.getElem?_eq_some_iff.1 hi).1
  rw [length_byts] at hl
  unfold bytesRow
  rw [Array.getElem?_append_left (by simpa using hl)]
  simpa [byts] using hi

/-- A list of one segment is returned. -/
def RetOne (w : World) (m : Int) (d : List UInt8) (e : Ending) (w' : World) : Prop :=
  ∃ ao, e = .returned (.slice ao 1 1) ∧ SegsN w' w.heap.size ao [(m, d)] ∧ Ext w w'

set_option maxRecDepth 20000 in
set_option maxHeartbeats 1600000 in
theorem one_any (m : Int) (s : ByteArray) (w : World) (hs : s.size ≤ 9223372036854775807) : Calls Try.prog 31 #[.int .i64 m, .string s] w (RetOne w m s.data.toList) := by
  go_enter Try.func31, Try.ntmps31
  go_wp2_with ((with_reducible show wpList _ _ _ (⟨some 7, _, _, _, _, _⟩ :: _) _ _); refine wpList_toBytes rfl 9 22 _ rfl 5 Try.underlying9 Try.underlying22 Try.underlying5 s rfl hs ?_; intro cap w1 hc1 hc2 HR1 HX1)
  go_ret
  refine ⟨_, rfl, ?_, HX1.out.trans (Ext.alloc _ _)⟩
  intro i q hi
  match i, hi with
  | 0, hi =>
    simp at hi
    subst hi
    have hn := heap_alloc_new w1 (.cells #[.int .i64 m, .slice (some ⟨w.heap.size, 0, none⟩) s.size cap] 33)
    have hz : s.data.toList.length = s.size := by simp
    refine ⟨w1.heap.size, 0, .slice (some ⟨w.heap.size, 0, none⟩) s.size cap, rfl, HX1.out.size, ?_, ?_, some ⟨w.heap.size, 0, none⟩, cap, by rw [hz], HR1.out.ext (Ext.alloc _ _), by rw [hz]; exact hc1, hc2, (fun h => by cases h), (fun a ha => by cases ha; exact Nat.le_refl _)⟩
    · rw [cell_of_row _ _ _ _ _ _ hn]; rfl
    · rw [cell_of_row _ _ _ _ _ _ hn]; rfl


def smallB (l : List SegD) : Bool := decide (l.length ≤ 40) && l.all (fun p => decide (p.2.length ≤ 150))
def joinL (l : List SegD) : List UInt8 := l.flatMap (·.2)
theorem joinL_take (l : List SegD) (k : Nat) (h : k < l.length) : joinL (l.take (k + 1)) = joinL (l.take k) ++ l[k].2 := by
  unfold joinL
  rw [← List.take_append_getElem h, List.flatMap_append]
  simp
theorem joinL_le (l : List SegD) (k : Nat) : (joinL (l.take k)).length ≤ (joinL l).length := by
  have : joinL l = joinL (l.take k) ++ joinL (l.drop k) := by
    unfold joinL
    rw [← List.flatMap_append, List.take_append_drop]
  rw [this, List.length_append]
  omega

set_option maxRecDepth 20000 in
set_option maxHeartbeats 1600000 in
theorem small_any (ao : Option Addr) (ca : Nat) (l : List SegD) (w : World) (hl : l.length ≤ 9223372036854775807) (hr : Segs w ao l) :
    Calls Try.prog 28 #[.slice ao l.length ca] w fun e w' => e = .returned (.bool (smallB l)) ∧ w = w' := by
  obtain ⟨n, hn⟩ : ∃ n, n = l.length := ⟨_, rfl⟩
  have HN := Lib.hid hn
  obtain ⟨B, hB⟩ : ∃ B, B = smallB l := ⟨_, rfl⟩
  have HB := Lib.hid hB
  rw [← hB]
  rw [← hn] at hl ⊢
  clear hn hB
  by_cases hbig : 40 < n
  · have HBF : Hid (B = false) := by refine Lib.hid ?_; rw [HB.out]; unfold smallB; rw [decide_eq_false (by rw [← HN.out]; omega)]; rfl
    go_enter Try.func28, Try.ntmps28
    go_wp2_with fail
    go_ret
    exact ⟨by rw [HBF.out]; rfl, rfl⟩
  · go_enter Try.func28, Try.ntmps28
    go_wp2_with fail
    go_loop [3] (fun i => ∃ k : Nat, k ≤ n ∧ i = .int .i64 k ∧ Hid ((l.take k).all (fun p => decide (p.2.length ≤ 150)) = true)) (fun i => n - (intOf i).toNat)
    case atStart => exact ⟨0, Nat.zero_le _, rfl, rfl⟩
    case round =>
      obtain ⟨k, hk, rfl, HA⟩ := hrel
      by_cases hlt : k < n
      · have hkl : k < l.length := by rw [← HN.out]; exact hlt
        obtain ⟨b0, off0, v0, ha0, hc0, hc1, ao', ac, rfl, har, hal, ham, han⟩ := hr k l[k] (List.getElem?_eq_getElem hkl)
        subst ha0
        obtain ⟨pr, hpr⟩ : ∃ pr, pr = l[k] := ⟨_, rfl⟩
        have HPR := Lib.hid hpr
        rw [← hpr] at hc0 hc1 har hal
        clear hpr
        obtain ⟨m, d⟩ := pr
        simp only at hc0 hc1 har hal
        obtain ⟨q, hq⟩ : ∃ q, q = d.length := ⟨_, rfl⟩
        have HQ := Lib.hid hq
        rw [← hq] at hc1 hal
        clear hq har
        by_cases h150 : 150 < q
        · have HBF : Hid (B = false) := by
            refine Lib.hid ?_
            rw [HB.out]
            unfold smallB
            rw [Bool.and_eq_false_iff]
            right
            rw [List.all_eq_false]
            refine ⟨l[k], List.getElem_mem hkl, ?_⟩
            rw [← HPR.out]
            simp
            rw [← HQ.out]
            omega
          go_wp2_with fail
          go_ret
          exact ⟨by rw [HBF.out]; rfl, rfl⟩
        · have HA2 : Hid ((l.take (k + 1)).all (fun p => decide (p.2.length ≤ 150)) = true) := by
            refine Lib.hid ?_
            rw [← List.take_append_getElem hkl, List.all_append, HA.out, ← HPR.out]
            simp
            rw [← HQ.out]
            omega
          go_wp2_with fail
          go_round
          case rel => exact ⟨k + 1, by omega, int_eq (by omega), HA2⟩
          case measure => simp [intOf]; omega
      · have HBT : Hid (B = true) := by
          refine Lib.hid ?_
          rw [HB.out]
          unfold smallB
          have := HA.out
          rw [List.take_of_length_le (by rw [← HN.out]; omega)] at this
          rw [this, decide_eq_true (by rw [← HN.out]; omega)]
          rfl
        go_wp2_with fail
        go_ret
        exact ⟨by rw [HBT.out]; rfl, rfl⟩

set_option maxRecDepth 20000 in
set_option maxHeartbeats 1600000 in
theorem repeated_any (c : UInt8) (n : Nat) (w : World) (hn : n ≤ 1048576) : Calls Try.prog 22 #[.int .u8 c.toNat, .int .i64 n] w (RetRow w (byts (List.replicate n c))) := by
  go_enter Try.func22, Try.ntmps22
  go_wp2_with fail
  go_loopw [5, 6] (fun v i wr => ∃ k : Nat, k ≤ n ∧ i = .int .i64 k ∧ wr.ownsRow w.heap.size 5 1 v k (byts (List.replicate k c)) ∧ Ext w wr) (fun _ i _ => n - (intOf i).toNat)
  case atStart => exact ⟨0, Nat.zero_le _, rfl, World.ownsRow_nil _ _ _ _, Ext.refl _⟩
  case round =>
    obtain ⟨k, hk, rfl, hown, hext⟩ := hrel
    by_cases hlt : k < n
    · have hB := hext.size
      go_wp2_with (at_builtin; refine wpList_pushK rfl _ _ 22 rfl w.heap.size 5 (.int .u8 0) 1 1 Try.infoByte rfl (by decide) Try.underlying22 _ rfl _ _ hown [.int .u8 c.toNat] rfl rfl (by simp [Value.oneCell']) (by omega) (by omega) hB ?_; intro s4 w4 hown4 hk4)
      refine ⟨⟨k + 1, by omega, by rw [Int.natCast_succ], ?_, ?_⟩, by simp [intOf]; omega⟩
      · rw [List.replicate_succ', byts_append]
        exact hown4
      · exact Below.trans hext (hk4.below hB (fun k' h' => (hown.lt k' h').1))
    · obtain rfl : k = n := by omega
      go_wp2_with fail
      go_ret
      exact RetRow.own hown hext

set_option maxRecDepth 20000 in
set_option maxHeartbeats 1600000 in
theorem rjoin_any (ao : Option Addr) (ca : Nat) (l : List SegD) (w : World) (hl : l.length ≤ 9223372036854775807) (hr : Segs w ao l) (hj : (joinL l).length ≤ 70368744177664) :
    Calls Try.prog 30 #[.slice ao l.length ca] w (RetRow w (byts (joinL l))) := by
  obtain ⟨n, hn⟩ : ∃ n, n = l.length := ⟨_, rfl⟩
  have HN := Lib.hid hn
  rw [← hn] at hl ⊢
  clear hn
  go_enter Try.func30, Try.ntmps30
  go_wp2_with fail
  go_loopw [3, 4] (fun v i wr => ∃ k : Nat, k ≤ n ∧ i = .int .i64 k ∧ wr.ownsRow w.heap.size 5 1 v (joinL (l.take k)).length (byts (joinL (l.take k))) ∧ Ext w wr) (fun _ i _ => n - (intOf i).toNat)
  case atStart => exact ⟨0, Nat.zero_le _, rfl, World.ownsRow_nil _ _ _ _, Ext.refl _⟩
  case round =>
    obtain ⟨k, hk, rfl, hown, hext⟩ := hrel
    by_cases hlt : k < n
    · have hB := hext.size
      have hkl : k < l.length := by rw [← HN.out]; exact hlt
      obtain ⟨b0, off0, v0, ha0, hc0, hc1, ao', ac, rfl, har, hal, ham, han⟩ := (hr.ext hext) k l[k] (List.getElem?_eq_getElem hkl)
      subst ha0
      have hjl := joinL_le l (k + 1)
      have hjt := joinL_take l k hkl
      rw [hjt, List.length_append] at hjl
      obtain ⟨pr, hpr⟩ : ∃ pr, pr = l[k] := ⟨_, rfl⟩
      rw [← hpr] at hc0 hc1 har hal hjt hjl
      clear hpr
      obtain ⟨m, d⟩ := pr
      simp only at hc0 hc1 har hal hjt hjl
      have HJT := Lib.hid hjt
      clear hjt
      obtain ⟨J, hJ⟩ : ∃ J, J = joinL (l.take k) := ⟨_, rfl⟩
      rw [← hJ] at hown hjl HJT
      have HJ := Lib.hid hJ
      clear hJ
      obtain ⟨q, hq⟩ : ∃ q, q = d.length := ⟨_, rfl⟩
      have HQ := Lib.hid hq
      rw [← hq] at hc1 hal hjl
      clear hq
      have HAR := Lib.hid har
      clear har
      go_wp2_with (at_builtin; refine wpList_app rfl _ _ 22 rfl w.heap.size 5 (.int .u8 0) 1 1 Try.infoByte rfl (by decide) Try.underlying22 _ rfl _ _ hown _ _ _ rfl (byts d) HAR.out (by rw [length_byts, HQ.out]; omega) han (byts_oneCell _) (by omega) (by omega) hB ?_; intro s4 w4 hown4 hk4)
      refine ⟨⟨k + 1, by omega, by rw [Int.natCast_succ], ?_, Below.trans hext (hk4.below hB (fun k' h' => (hown.lt k' h').1))⟩, by simp [intOf]; omega⟩
      rw [HJT.out, byts_append, List.length_append, ← HQ.out]
      exact hown4
    · obtain rfl : k = n := by omega
      go_wp2_with fail
      go_ret
      rw [List.take_of_length_le (by rw [HN.out]; exact Nat.le_refl _)] at hown
      exact RetRow.own hown hext

set_option maxRecDepth 20000 in
set_option maxHeartbeats 1600000 in
theorem join_any (ao : Option Addr) (ca : Nat) (l : List SegD) (w : World) (hl : l.length ≤ 9223372036854775807) (hr : Segs w ao l) (hj : (joinL l).length ≤ 70368744177664) :
    Calls Try.prog 34 #[.slice ao l.length ca] w (RetRow w (byts (joinL l))) := by
  obtain ⟨n, hn⟩ : ∃ n, n = l.length := ⟨_, rfl⟩
  have HN := Lib.hid hn
  rw [← hn] at hl ⊢
  clear hn
  go_enter Try.func34, Try.ntmps34
  go_wp2_with fail
  go_loopw [3, 5, 8] (fun v _ i wr => ∃ k : Nat, k ≤ n ∧ i = .int .i64 k ∧ wr.ownsRow w.heap.size 5 1 v (joinL (l.take k)).length (byts (joinL (l.take k))) ∧ Ext w wr) (fun _ _ i _ => n - (intOf i).toNat)
  case atStart => exact ⟨0, Nat.zero_le _, rfl, World.ownsRow_nil _ _ _ _, Ext.refl _⟩
  case round =>
    obtain ⟨k, hk, rfl, hown, hext⟩ := hrel
    by_cases hlt : k < n
    · have hB := hext.size
      have hkl : k < l.length := by rw [← HN.out]; exact hlt
      obtain ⟨b0, off0, v0, ha0, hc0, hc1, ao', ac, rfl, har, hal, ham, han⟩ := (hr.ext hext) k l[k] (List.getElem?_eq_getElem hkl)
      subst ha0
      have hjl := joinL_le l (k + 1)
      have hjt := joinL_take l k hkl
      rw [hjt, List.length_append] at hjl
      obtain ⟨pr, hpr⟩ : ∃ pr, pr = l[k] := ⟨_, rfl⟩
      rw [← hpr] at hc0 hc1 har hal hjt hjl
      clear hpr
      obtain ⟨m, d⟩ := pr
      simp only at hc0 hc1 har hal hjt hjl
      have HJT := Lib.hid hjt
      clear hjt
      obtain ⟨J, hJ⟩ : ∃ J, J = joinL (l.take k) := ⟨_, rfl⟩
      rw [← hJ] at hown hjl HJT
      have HJ := Lib.hid hJ
      clear hJ
      obtain ⟨q, hq⟩ : ∃ q, q = d.length := ⟨_, rfl⟩
      have HQ := Lib.hid hq
      rw [← hq] at hc1 hal hjl
      clear hq
      have HOW := Lib.hid (own_extN hown (Ext.alloc wr (.cells #[.int .i64 m, .slice ao' q ac] 33)))
      have HAR := Lib.hid (har.ext (Ext.alloc wr (.cells #[.int .i64 m, .slice ao' q ac] 33)))
      have HB2 := Lib.hid (Nat.le_trans hB (Ext.alloc wr (.cells #[.int .i64 m, .slice ao' q ac] 33)).size)
      clear har
      go_wp2_with (at_builtin; refine wpList_app rfl _ _ 22 rfl w.heap.size 5 (.int .u8 0) 1 1 Try.infoByte rfl (by decide) Try.underlying22 _ rfl _ _ HOW.out _ _ _ rfl (byts d) HAR.out (by rw [length_byts, HQ.out]; omega) han (byts_oneCell _) (by omega) (by omega) HB2.out ?_; intro s4 w4 hown4 hk4)
      refine ⟨⟨k + 1, by omega, by rw [Int.natCast_succ], ?_, Below.trans (hext.trans (Ext.alloc _ _)) (hk4.below HB2.out (fun k' h' => (HOW.out.lt k' h').1))⟩, by simp [intOf]; omega⟩
      rw [HJT.out, byts_append, List.length_append, ← HQ.out]
      exact hown4
    · obtain rfl : k = n := by omega
      go_wp2_with fail
      go_ret
      rw [List.take_of_length_le (by rw [HN.out]; exact Nat.le_refl _)] at hown
      exact RetRow.own hown hext

end Go.Proofs.Ythebfpolijajgaa
