/-
  The contract of qrlayout's cells.
  Conditions: a layout's slice holds its alignment coordinates; small numbers.
-/
import Derived.Test.YtjkpdhcnklgfbaaPur
import Derived.Test.YtjkpdhcnklgfbaaKeep
namespace Go.Proofs.Ytjkpdhcnklgfbaa
open Go.RowKit Go.Bs Go.Qrv Go.Lay

/-- A slice of the call's own is returned. -/
def OwnR (t : TypeId) (w : World) (cs : List Value) (e : Ending) (w' : World) : Prop := ∃ s, e = .returned s ∧ w'.ownsRow w.heap.size t 1 s cs.length cs ∧ Ext w w'

theorem cellsL_len (v : Int) (k : Nat) (l : List Int) (m : Nat) : (cellsL v k l m).length = m := by simp [cellsL]
theorem cellsL_row (v : Int) (k : Nat) (l : List Int) (y x : Nat) (hx : x < k) : cellsL v k l (y * k + (x + 1)) = cellsL v k l (y * k + x) ++ [pur v k l x y] := by
  have h1 : (y * k + x) % k = x := by rw [Nat.add_comm, Nat.add_mul_mod_self_right, Nat.mod_eq_of_lt hx]
  have h2 : (y * k + x) / k = y := by rw [Nat.add_comm, Nat.add_mul_div_right _ _ (by omega), Nat.div_eq_of_lt hx, Nat.zero_add]
  unfold cellsL
  rw [← Nat.add_assoc, List.range_succ, List.map_append, List.map_cons, List.map_nil, h1, h2]

theorem Try.infoCell : (Try.prog.info? 55).map (fun i => (i.zero, i.size, i.bytes)) = some (some (.int .i64 0), 1, 8) := by kernel_rfl

set_option maxRecDepth 20000 in
set_option maxHeartbeats 2000000 in
theorem cells_own (v : Int) (k : Nat) (l : List Int) (ao : Option Addr) (cap : Nat) (w : World) (hr : Row w ao (ints l)) (hn : l.length ≤ 1000) (hb : ∀ a ∈ l, 0 ≤ a ∧ a ≤ 1000) (hs : 21 ≤ k ∧ k ≤ 1000) (hv : 0 ≤ v ∧ v ≤ 1000) :
    Calls Try.prog 41 #[.agg (layV v k ao l.length cap)] w (OwnR 55 w (ints (cellsL v k l (k * k)))) := by
  have HPU := fun (x y : Nat) (hx : x < k) (hy : y < k) (W : World) (h : Row W ao (ints l)) => Lib.hid (purpose_any v k x y l ao cap W h hn hb (by omega) (by omega) (by omega) hv)
  have HR := Lib.hid hr
  obtain ⟨Q, hQ⟩ : ∃ Q, k * k = Q := ⟨_, rfl⟩
  have HQ := Lib.hid hQ
  have hQb : Q ≤ 1000000 := by rw [← hQ]; exact Nat.mul_le_mul hs.2 hs.2
  have hpw : wrap64 ((k : Int) * (k : Int)) = (Q : Int) := by rw [← Int.natCast_mul, hQ]; exact IntWalk.wrap64_in _ ⟨by omega, by omega⟩
  have HPW := Lib.hid hpw
  clear hr hb hn hQ hpw
  generalize l.length = n at HPU ⊢
  unfold layV at HPU ⊢
  obtain ⟨wA, hwA⟩ : ∃ wA, wA = w.alloc (.cells #[.int .i64 v, .int .i64 k, .slice ao n cap] 69) := ⟨_, rfl⟩
  have hxA : Ext w wA := by rw [hwA]; exact Ext.alloc _ _
  have HBX : Hid (∀ W, Ext wA W → W.cell? ⟨w.heap.size, 0, none⟩ = some (.int .i64 v) ∧ W.cell? ⟨w.heap.size, 1, none⟩ = some (.int .i64 k) ∧ W.cell? ⟨w.heap.size, 2, none⟩ = some (.slice ao n cap)) := by
    intro W h
    rw [hwA] at h
    exact box3 h
  have HXA := Lib.hid hxA
  have hpw := HPW.out
  go_enter Try.func41, Try.ntmps41
  go_wp2_with (at_make; refine wpList_make (ws := wA) rfl _ _ 48 rfl wA.heap.size 55 (.int .i64 0) 8 Try.infoCell rfl Try.underlying48 _ _ _ _ rfl rfl 0 Q rfl (by first | rfl | exact HPW.out) (Nat.zero_le _) (by omega) (by omega) (by rw [← hwA]; exact Below.refl _ _) (by rw [← hwA]; exact Nat.le_refl _) ?_; intro w2 hown2 hbel2 _; obtain ⟨z0, z1, z2⟩ := HBX.out w2 hbel2)
  rw [World.size_alloc] at hown2
  have HOWN2 : Hid (w2.ownsRow wA.heap.size 55 1 (.slice (some ⟨w.heap.size + 1, 0, none⟩) 0 Q) 0 (ints (cellsL v k l 0))) := hown2
  have HBEL2 := Lib.hid hbel2
  clear hown2 hbel2
  go_loopw [3, 4, 5, 14, 18, 19] (fun out _ _ i _ _ wr => ∃ y : Nat, y ≤ k ∧ i = .int .i64 y ∧ Hid (wr.ownsRow wA.heap.size 55 1 out (y * k) (ints (cellsL v k l (y * k)))) ∧ Hid (Ext wA wr)) (fun _ _ _ i _ _ _ => k - (intOf i).toNat)
  case atStart => exact ⟨0, Nat.zero_le _, rfl, by rw [Nat.zero_mul]; exact HOWN2, HBEL2⟩
  case round =>
    clear HOWN2 HBEL2 z0 z1 z2
    obtain ⟨y, hy, rfl, HOWN, HX⟩ := hrel
    obtain ⟨z0, z1, z2⟩ := HBX.out wr HX.out
    by_cases hlty : y < k
    · have HOWN0 : Hid (wr.ownsRow wA.heap.size 55 1 u3 (y * k + 0) (ints (cellsL v k l (y * k + 0)))) := HOWN
      have HX0 := HX
      go_wp2_with fail
      go_loopw [3, 5, 19] (fun out _ i wr => ∃ x : Nat, x ≤ k ∧ i = .int .i64 x ∧ Hid (wr.ownsRow wA.heap.size 55 1 out (y * k + x) (ints (cellsL v k l (y * k + x)))) ∧ Hid (Ext wA wr)) (fun _ _ i _ => k - (intOf i).toNat)
      case atStart => exact ⟨0, Nat.zero_le _, rfl, HOWN0, HX0⟩
      case round =>
        clear HOWN0 HX0 HOWN HX z0 z1 z2
        obtain ⟨x, hx, rfl, HOWN, HX⟩ := hrel
        obtain ⟨z0, z1, z2⟩ := HBX.out wr HX.out
        by_cases hltx : x < k
        · have HST := Lib.hid (cellsL_row v k l y x hltx)
          have HP := HPU x y hltx hlty
          obtain ⟨C, hC⟩ : ∃ C, C = pur v k l x y := ⟨_, rfl⟩
          rw [← hC] at HST HP
          clear hC
          have hyk : y * k + x < Q := by
            have h1 : (y + 1) * k ≤ k * k := Nat.mul_le_mul_right k hlty
            have h2 := HQ.out
            rw [Nat.add_mul] at h1
            omega
          go_wp2_with fail
          refine (HP wr (HR.out.ext (HXA.out.trans HX.out))).out.mono ?_
          rintro e w3 ⟨rfl, hx3⟩
          have HOWN3 := Lib.hid (own_extN HOWN.out hx3)
          have HX3 := Lib.hid (HX.out.trans hx3)
          clear hx3 HP z0 z1 z2
          go_wp2_with (at_builtin; refine wpList_pushK rfl _ _ 48 rfl wA.heap.size 55 (.int .i64 0) 1 8 Try.infoCell rfl (by decide) Try.underlying48 _ rfl _ _ HOWN3.out [.int .i64 C] rfl rfl (by simp [Value.oneCell']) (by omega) (by omega) HX3.out.size ?_; intro s4 w4 hown4 hk4)
          refine ⟨⟨x + 1, by omega, by rw [Int.natCast_succ], Lib.hid ?_, Lib.hid (Below.trans HX3.out (hk4.below HX3.out.size (fun k2 h2 => (HOWN3.out.lt k2 h2).1)))⟩, by simp [intOf]; omega⟩
          rw [HST.out, ints_append]
          exact hown4
        · obtain rfl : x = k := by omega
          have HOWN4 : Hid (wr.ownsRow wA.heap.size 55 1 u3 ((y + 1) * x) (ints (cellsL v x l ((y + 1) * x)))) := by rw [Nat.add_mul, Nat.one_mul]; exact HOWN
          go_wp2_with fail
          refine ⟨⟨y + 1, by omega, by rw [Int.natCast_succ], HOWN4, HX⟩, by simp [intOf]; omega⟩
    · obtain rfl : y = k := by omega
      go_wp2_with fail
      go_ret
      exact ⟨_, rfl, by rw [length_ints, cellsL_len]; exact own_base HOWN.out HXA.out.size, HXA.out.trans HX.out⟩

theorem cells_any (v : Int) (k : Nat) (l : List Int) (ao : Option Addr) (cap : Nat) (w : World) (hr : Row w ao (ints l)) (hn : l.length ≤ 1000) (hb : ∀ a ∈ l, 0 ≤ a ∧ a ≤ 1000) (hs : 21 ≤ k ∧ k ≤ 1000) (hv : 0 ≤ v ∧ v ≤ 1000) :
    Calls Try.prog 41 #[.agg (layV v k ao l.length cap)] w (RetRow w (ints (cellsL v k l (k * k)))) :=
  (cells_own v k l ao cap w hr hn hb hs hv).mono fun _ _ h => by
    obtain ⟨s, rfl, h1, h2⟩ := h
    exact RetRow.own h1 h2

end Go.Proofs.Ytjkpdhcnklgfbaa
