/-
  The contract of modes.newWindow.
  Conditions: the mode is one of the three; small numbers.
-/
import Derived.Test.YthebfpolijajgaaBestC
namespace Go.Proofs.Ythebfpolijajgaa
open Go.RowKit Go.Bs Go.Mode

def NewPost (w : World) (m : Int) (k n : Nat) (e : Ending) (w' : World) : Prop :=
  ∃ g h, e = .returned (.pointer (some ⟨g, 0, none⟩)) ∧ WinE w' g h m k n n (fun _ => []) ∧ Ext w w' ∧ w.heap.size ≤ g ∧ w.heap.size ≤ h

set_option maxRecDepth 20000 in
set_option maxHeartbeats 3200000 in
theorem newWindow_any (m : Int) (k n : Nat) (w : World) (hm : okMode m = true) (hk : k ≤ 2) (hn : n ≤ 4096) :
    Calls Try.prog 60 #[.int .i64 m, .int .i64 k, .int .i64 n] w (NewPost w m k n) := by
  have hcb := cnt_le m k hk
  have hcp := cnt_pos m k
  have HM := Lib.hid hm
  have HC : Hid (ctRes m k = (((cntB m k : Nat) : Int), 0)) := by
    refine Lib.hid ?_
    unfold ctRes
    rw [if_neg (by rw [hm]; simp; omega)]
    simp
  clear hm
  obtain ⟨B, hB⟩ : ∃ B, B = cntB m k := ⟨_, rfl⟩
  rw [← hB] at hcb hcp HC
  have HB := Lib.hid hB
  clear hB
  obtain ⟨p, hp⟩ : ∃ p, p = 2 ^ B := ⟨_, rfl⟩
  have hw2 : IntKind.i64.wrap ((2 : Int) ^ B) = (p : Int) := by
    rw [hp, IntWalk.i64_in _ (by have := pow_le61 B (by omega); have : (0 : Int) < 2 ^ B := Int.pow_pos (by decide); omega)]
    rw [Int.natCast_pow]
    rfl
  have hpb : 256 ≤ p ∧ p ≤ 65536 := by
    rw [hp]
    exact ⟨Nat.pow_le_pow_right (n := 2) (by decide) hcp, Nat.pow_le_pow_right (n := 2) (by decide) hcb⟩
  have HPP := Lib.hid hp
  clear hp
  have s1 : IntKind.i64.wrap (4 + (B : Int)) = ((4 + B : Nat) : Int) := by rw [IntWalk.i64_in _ (by omega)]; omega
  have s2 : IntKind.i64.wrap ((p : Int) - 1) = ((p - 1 : Nat) : Int) := by rw [IntWalk.i64_in _ (by omega)]; omega
  go_enter Try.func60, Try.ntmps60
  go_wp2_with fail
  refine (countBits_any _ _ _).mono ?_
  rw [HC.out]
  rintro e w' ⟨rfl, rfl⟩
  simp only [two]
  go_upto_region 2 with fail
  go_region_with (go_at_call 48; refine (packed_any m _ HM.out).mono ?_; rw [packA_eq]; rintro e w3 ⟨rfl, hx3⟩)
  go_upto_region 3 with fail
  obtain ⟨g, hg⟩ : ∃ g, g = w3.heap.size := ⟨_, rfl⟩
  rw [← hg]
  generalize hw4 : World.alloc w3 _ = w4
  have HG4 : Hid (w4.heap[g]? = some (.cells (winC m k (fun _ => .slice none 0 0)) 98 (0, 0))) := by
    refine Lib.hid ?_
    rw [hg, ← hw4, heap_alloc_new]
    unfold winC
    rw [← HB.out, ← HPP.out]
    simp
    done
  have hx4 : Ext w w4 := by rw [← hw4]; exact ((Ext.drew _).trans hx3).trans (Ext.alloc _ _)
  have hgb : w.heap.size ≤ g := by rw [hg]; exact ((Ext.drew _).trans hx3).size
  clear hw4 hg s1 s2 hw2 hx3 hpb
  go_wp2_with (at_make; refine wpList_make (ws := w) rfl _ _ 63 rfl w.heap.size 3 (.int .i64 0) 8 Try.infoInt rfl Try.underlying63 _ _ _ _ rfl rfl (3 * n) (3 * n) (by omega) (by omega) (Nat.le_refl _) (by omega) (by omega) hx4 hx4.size ?_; intro w5 hown5 hbel5 hg5)
  obtain ⟨h, hh⟩ : ∃ h, h = w4.heap.size := ⟨_, rfl⟩
  rw [← hh] at hown5 ⊢
  have HH5 : Hid (w5.heap[h]? = some (.cells (List.replicate (3 * n) (Value.int .i64 0)).toArray 3 (0, 0))) := by
    refine Lib.hid ?_
    rcases hown5.2 with ⟨hv, _⟩ | ⟨g', cap', cur, hv, hb', hg', hnc, hcm, hcs, htake⟩
    · cases hv
    · simp only [Value.slice.injEq, Option.some.injEq, Addr.mk.injEq, and_true, true_and] at hv
      obtain ⟨rfl, rfl⟩ := hv
      rw [hg', ← htake, List.take_of_length_le (by simp; omega)]
  have HG5 : Hid (w5.heap[g]? = some (.cells (winC m k (fun _ => .slice none 0 0)) 98 (0, 0))) := by
    refine Lib.hid ?_
    rw [hg5.block g (Array.getElem?_eq_some_iff.1 HG4.out).1 (by simp)]
    exact HG4.out
  have hne : g ≠ h := by rw [hh]; have := (Array.getElem?_eq_some_iff.1 HG4.out).1; omega
  have hhb : w.heap.size ≤ h := by rw [hh]; exact hx4.size
  have HBEL := Lib.hid hbel5
  clear hown5 hg5 hbel5 hh HG4 hx4
  go_loopw [11, 31] (fun _ i wr => ∃ j : Nat, j ≤ 3 ∧ i = .int .i64 j ∧ ∃ qv, Hid (wr.heap[g]? = some (.cells (winC m k qv) 98 (0, 0))) ∧ Hid (wr.heap[h]? = some (.cells (List.replicate (3 * n) (Value.int .i64 0)).toArray 3 (0, 0))) ∧ Hid (∀ i, i < j → QOk h n n (List.replicate (3 * n) (Value.int .i64 0)) i (qv i) []) ∧ Hid (Below w.heap.size w wr)) (fun _ i _ => 3 - (intOf i).toNat)
  case atStart => exact ⟨0, by omega, rfl, _, HG5, HH5, Lib.hid (fun i hi => absurd hi (by omega)), HBEL⟩
  case round =>
    clear HG5 HH5 HBEL
    obtain ⟨j, hj, rfl, qv, HG5, HH5, HQ, HBEL⟩ := hrel
    by_cases hlt : j < 3
    · have z : wr.cell? ⟨g, 9 + j, none⟩ = some (qv j) := by
        rw [cell_of_row wr g (9 + j) _ _ _ HG5.out]
        exact winC_at m k qv j hlt
      have zf : wr.frozen? ⟨g, 9 + j, none⟩ = false := by simp [World.frozen?, HG5.out]
      have hji : (j : Int) < 3 := by omega
      have hjn : j * n ≤ 2 * n := Nat.mul_le_mul_right n (by omega)
      obtain ⟨A, hA⟩ : ∃ A, A = j * n := ⟨_, rfl⟩
      have hA1 : (j : Int) * (n : Int) = (A : Int) := by rw [hA]; rfl
      have hA2 : ((j : Int) + 1) * (n : Int) = ((A + n : Nat) : Int) := by rw [Int.add_mul, hA1]; omega
      rw [← hA] at hjn
      have HA := Lib.hid hA
      clear hA
      go_wp2_with fail
      go_region
      go_wp2_with fail
      obtain ⟨o2, ho2⟩ : ∃ o2, o2 = if n = 0 then 0 else A := ⟨_, rfl⟩
      have hos : (if n = 0 then some (⟨h, 0, none⟩ : Addr) else some ⟨h, A, none⟩) = some ⟨h, o2, none⟩ := by rw [ho2]; split <;> rfl
      rw [hos]
      refine ⟨⟨j + 1, by omega, by rw [Int.natCast_succ], upd qv j (.slice (some ⟨h, o2, none⟩) 0 n), Lib.hid ?_, Lib.hid ?_, Lib.hid (fun i hi => ?_), Lib.hid ((HBEL.out.setCell hgb _).drew)⟩, by simp [intOf]; omega⟩
      · show (wr.setCell ⟨g, 9 + j, none⟩ (.slice (some ⟨h, o2, none⟩) 0 n)).heap[g]? = _
        rw [heap_setCell_same _ g (9 + j) _ _ _ _ HG5.out, winC_set m k qv j hlt]
      · show (wr.setCell ⟨g, 9 + j, none⟩ (.slice (some ⟨h, o2, none⟩) 0 n)).heap[h]? = _
        rw [heap_setCell_other _ g _ _ _ (fun e => hne e.symm)]
        exact HH5.out
      · unfold upd
        by_cases e : i = j
        · subst e
          rw [if_pos rfl]
          have e1 : (i + 1) * n = i * n + n := Nat.succ_mul i n
          have e2 := HA.out
          refine ⟨o2, n, rfl, ?_, ?_, by simp, Nat.le_refl _, fun x y hx => by simp at hx⟩
          · rw [ho2]
            split
            · rename_i h0
              rw [h0]
              simp
            · omega
          · rw [ho2]
            split
            · rename_i h0
              rw [h0]
              simp
            · omega
        · rw [if_neg e]
          exact HQ.out i (by omega)
    · obtain rfl : j = 3 := by omega
      go_wp2_with fail
      go_ret
      refine ⟨g, h, rfl, ⟨qv, _, ⟨hne, HG5.out, HH5.out, by simp, fun i hi => HQ.out i hi⟩⟩, HBEL.out, hgb, hhb⟩

end Go.Proofs.Ythebfpolijajgaa
