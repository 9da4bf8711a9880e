/-
  The contract of the reference's Cells.
  Condition: none.
-/
import Derived.Test.YtjkpdhcnklgfbaaNew
namespace Go.Proofs.Ytjkpdhcnklgfbaa
open Go.RowKit Go.Bs Go.Qrv Go.Lay

theorem cellsN_at (n i : Nat) (h : i < sd n * sd n) : (ints (cellsN n))[i]? = some (.int .i64 (pur n (sd n) (al n) ((i % sd n : Nat) : Int) ((i / sd n : Nat) : Int))) := by
  unfold cellsN cellsL ints
  simp [h]
theorem cellsN_len (n : Nat) : (ints (cellsN n)).length = sd n * sd n := by
  rw [length_ints]
  exact cellsL_len _ _ _ _
theorem ver_iff (n : Nat) : (45 : Int) ≤ (sd n : Nat) ↔ (7 : Int) ≤ (n : Nat) := by unfold sd; omega

set_option maxRecDepth 20000 in
set_option maxHeartbeats 2000000 in
theorem rcells_res (v : Int) (w : World) : Calls Try.prog 24 #[.int .i64 v] w (RetSl w (ints (cellsRes v).1, (cellsRes v).2)) := by
  by_cases hv : inV v
  · obtain ⟨n, rfl, h1, h2⟩ := inV_nat hv
    rw [cellsRes_1 hv]
    obtain ⟨a1, a2, a3⟩ := al_facts n h1 h2
    have hsb : 21 ≤ sd n ∧ sd n ≤ 177 := by unfold sd; omega
    have HSZ := Lib.hid (szRes_1 (v := (n : Int)) ⟨by omega, by omega⟩)
    have HAR := Lib.hid (alRes_1 (v := n) ⟨by omega, by omega⟩)
    have HSD : Hid ((17 + 4 * (n : Int)) = ((sd n : Nat) : Int)) := by unfold sd; show _ = _; omega
    have HPU := fun (i : Nat) (hi : i < sd n * sd n) (ao : Option Addr) (cap : Nat) (W : World) (h : Row W ao (ints (al n))) => Lib.hid (rpurpose_any n (sd n) ((i % sd n : Nat) : Int) ((i / sd n : Nat) : Int) (al n) ao cap W h (by omega) (fun a ha => by have := a2 a ha; omega) (by omega)
      (by have h := Nat.mod_lt i (show 0 < sd n by omega); generalize i % sd n = M at h ⊢; omega) (by have h := Nat.div_lt_of_lt_mul hi; generalize i / sd n = D at h ⊢; omega) a3 (ver_iff n))
    have HAT := fun (i : Nat) (hi : i < sd n * sd n) => Lib.hid (cellsN_at n i hi)
    have HLEN := Lib.hid (cellsN_len n)
    have hdm := fun (i : Nat) (hi : i < sd n * sd n) => (⟨Nat.mod_lt i (show 0 < sd n by omega), Nat.div_lt_of_lt_mul hi⟩ : i % sd n < sd n ∧ i / sd n < sd n)
    clear hv a1 a2 a3
    simp only
    generalize al n = L at HAR HPU HAT
    generalize hC : ints (cellsN n) = C at HLEN HAT ⊢
    have HC := Lib.hid hC
    clear hC
    generalize sd n = k at HSD hsb HPU HAT HLEN hdm
    obtain ⟨Q, hQ⟩ : ∃ Q, k * k = Q := ⟨_, rfl⟩
    have hQb : Q ≤ 31329 := by rw [← hQ]; exact Nat.mul_le_mul hsb.2 hsb.2
    have hpw : wrap64 ((k : Int) * (k : Int)) = (Q : Int) := by rw [← Int.natCast_mul, hQ]; exact IntWalk.wrap64_in _ ⟨by omega, by omega⟩
    rw [hQ] at HPU HAT HLEN hdm
    have HPW := Lib.hid hpw
    clear hQ hpw
    have HDM := Lib.hid hdm
    clear hdm
    go_enter Try.func24, Try.ntmps24
    go_wp2_with fail
    refine (rsize_any _ _).mono ?_
    rw [HSZ.out]
    rintro e w' ⟨rfl, rfl⟩
    simp only [two]
    rw [HSD.out]
    go_wp2_with fail
    refine (raligns_any _ _).mono ?_
    rw [HAR.out]
    intro e w1 hret
    obtain ⟨b1, c1, rfl, hr1, hl1, hm1, _, hx1⟩ := hret.ints
    clear hret
    have HR1 := Lib.hid hr1
    have HX1 := Lib.hid hx1
    clear hr1 hx1
    simp only at hl1 ⊢
    generalize L.length = m at HPU hl1 ⊢
    have hpw := HPW.out
    go_wp2_with (at_make; refine wpList_make (ws := w1) rfl _ _ 48 rfl w1.heap.size 55 (.int .i64 0) 8 Try.infoCell rfl Try.underlying48 _ _ _ _ rfl rfl Q Q (by first | rfl | exact HPW.out) (by first | rfl | exact HPW.out) (Nat.le_refl _) (by omega) (by omega) (Below.refl _ _) (Nat.le_refl _) ?_; intro w2 hown2 hbel2 _)
    have HOWN2 := Lib.hid hown2
    have HBEL2 := Lib.hid hbel2
    clear hown2 hbel2
    go_loopw [9] (fun ii wr => ∃ i : Nat, i ≤ Q ∧ ii = .int .i64 i ∧ Hid (wr.ownsRow w1.heap.size 55 1 (.slice (some ⟨w1.heap.size, 0, none⟩) Q Q) Q (filled C (.int .i64 0) i)) ∧ Hid (Ext w1 wr)) (fun ii _ => Q - (intOf ii).toNat)
    case atStart => exact ⟨0, Nat.zero_le _, rfl, by rw [filled_zero, HLEN.out]; exact HOWN2, HBEL2⟩
    case round =>
      clear HOWN2 HBEL2
      obtain ⟨i, hi, rfl, HOWN, HX⟩ := hrel
      by_cases hlt : i < Q
      · obtain ⟨hmk, hdk⟩ := HDM.out i hlt
        have HP := HPU i hlt b1 c1
        have HA := HAT i hlt
        have hk0 : ¬ ((k : Int) = 0) := by omega
        have hM : (i : Int).tmod (k : Int) = ((i % k : Nat) : Int) := rfl
        have hD : (i : Int).tdiv (k : Int) = ((i / k : Nat) : Int) := rfl
        generalize i % k = M at HP HA hM hmk
        generalize i / k = D at HP HA hD hdk
        generalize pur n k L M D = PC at HP HA
        have hWD : IntKind.i64.wrap ((D : Nat) : Int) = (D : Int) := wrap_i64_nat D (by omega)
        go_wp2_with fail
        go_region_with (go_at_call 57; (with_reducible refine (HP _ (HR1.out.ext (HX.out.trans (Ext.drew _)))).out.mono ?_); rintro e w3 ⟨rfl, hx3⟩; have hx3' := (Ext.drew _).trans hx3; have hown3 := own_extN HOWN.out hx3'; obtain ⟨hc3, hf3⟩ := own_cell hown3 i _ (filled_at C (.int .i64 0) i (by rw [HLEN.out]; exact hlt)))
        all_goals
          go_wp2_with fail
          refine ⟨⟨i + 1, by omega, by rw [Int.natCast_succ], Lib.hid ?_, Lib.hid ((HX.out.trans hx3').set (Nat.le_refl _) _ _)⟩, by simp [intOf]; omega⟩
          have := (hown3.stored i (.int .i64 PC)).1
          rw [filled_set C _ _ i HA.out] at this
          exact this
      · obtain rfl : i = Q := by omega
        go_wp2_with fail
        go_ret2
        have h := HOWN.out
        rw [filled_all C _ _ (by rw [HLEN.out]; exact Nat.le_refl _)] at h
        exact RetSl.own h (HX1.out.trans HX.out)
  · rw [cellsRes_2 hv]
    have HSZ := Lib.hid (szRes_2 hv)
    clear hv
    go_enter Try.func24, Try.ntmps24
    go_wp2_with fail
    refine (rsize_any _ _).mono ?_
    rw [HSZ.out]
    rintro e w' ⟨rfl, rfl⟩
    simp only [two]
    go_wp2_with fail
    go_ret2
    exact RetSl.nil _ _ _ (Ext.refl _)

end Go.Proofs.Ytjkpdhcnklgfbaa
